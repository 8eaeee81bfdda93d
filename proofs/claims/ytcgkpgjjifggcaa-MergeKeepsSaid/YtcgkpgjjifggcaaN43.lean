/-
  Merge: the walk of MergeKeeps.
-/
import Derived.Test.YtcgkpgjjifggcaaN42
namespace Go.Proofs.Ytcgkpgjjifggcaa
set_option linter.unusedVariables false
set_option linter.unusedSimpArgs false
open Go.RowKit Sl

set_option maxRecDepth 100000 in
set_option maxHeartbeats 12800000 in
theorem keeps_walk (v : Value) (l : List CellR) (S : Nat → Prop) (vo : Value) (ops : List OpR) (S' : Nat → Prop) (w : World) (h : CV w S v l) (ho : SlV OpR.cells w S' vo ops) :
    Calls Try.prog 8 #[v, vo] w fun e w' => e = .returned (.bool true) ∧ Below w.heap.size w w' := by
  obtain ⟨i0, hi0, hz0, hz1, hz2⟩ := info_parts Try.infoCell
  obtain ⟨j0, hj0, hy0, hy1, hy2⟩ := info_parts Try.infoPair
  obtain ⟨ao, co, hv⟩ := ho.shape
  obtain ⟨no, hno⟩ : ∃ no, ops.length = no := ⟨_, rfl⟩
  rw [hno] at hv
  subst hv
  obtain ⟨-, ho2, ho3⟩ := SlV.len ho
  unfold maxLen at ho3
  have HB := Lib.hid (blends_ok w)
  have HSO := Lib.hid (keeps_sort v l S w h)
  have HO := Lib.hid ho
  have HNO := Lib.hid hno
  clear h ho hno
  go_enter Try.func8, Try.ntmps8
  go_wp2_with fail
  refine (HB.out).mono ?_
  rintro e w1 ⟨rfl, hb1⟩
  have HB1 := Lib.hid hb1
  clear hb1 HB
  go_wp2_with fail
  refine (HSO.out _ HB1.out).mono ?_
  rintro e w2 ⟨a, n, c, D, rfl, hs, hn, hn60, hcv, hb2⟩
  have HS := Lib.hid hs
  have HN := Lib.hid hn
  have HC := Lib.hid hcv
  have HB2 := Lib.hid hb2
  obtain ⟨-, hnc, hcm⟩ := SlV.len hcv
  unfold maxLen at hcm
  obtain ⟨wm, hwm⟩ : ∃ wm, w2.alloc (.cells (madeCells (Value.agg #[.string ⟨#[]⟩, .int .i64 0, .int .i64 0, .string ⟨#[]⟩]).cells ((n + 2) * 4)) 42) = wm := ⟨_, rfl⟩
  obtain ⟨w3, hap, hsz3, hb3, hf3⟩ := keeps_in a n c D w2 wm _ hcv hn60 hwm
  have HAP := Lib.hid hap
  have HB3 := Lib.hid hb3
  have HF3 := Lib.hid hf3
  have HWM := Lib.hid hwm
  obtain ⟨G, hG⟩ : ∃ G, w2.heap.size = G := ⟨_, rfl⟩
  rw [hG] at HAP hsz3 HF3
  have HIN : Hid (∀ W, Below w3.heap.size w3 W → CV W (fun _ => False) (.slice (some ⟨G, 0, none⟩) n (n + 2)) D) := Lib.hid (fun W hW => by
    have h1 := SlV.cutHi CellR.cells_len (hf3.below hW) n (by omega) _ rfl
    rw [List.take_left' hn, hG] at h1
    exact h1.mono (fun _ h => h.elim))
  have HALL := Lib.hid (keeps_all D n _ _ w3 (HIN.out _ (Below.refl _ _)) hn60 hs)
  have HSZ3 := Lib.hid hsz3
  clear hs hn hcv hb2 hap hb3 hf3 hwm HSO HB1 hsz3
  go_wp2_with (first
    | (with_reducible refine wpList_make_cells _ rfl _ (.tmp 24) 22 rfl 42 i0 (.agg #[.string ⟨#[]⟩, .int .i64 0, .int .i64 0, .string ⟨#[]⟩]) 4 Try.underlying22 hi0 hz0 hz1 .i64 .i64 ((n : Int) + 2) (n + 2) rfl rfl (by omega) (by rw [hz2]; omega) (by omega) wm HWM.out ?_)
    | (with_reducible refine Lib.wpList_append_run _ rfl (.tmp 25) (.tmp 26) 22 22 rfl (.slice (some ⟨G, 0, none⟩) 0 (n + 2)) (.slice a n c) rfl rfl _ _ (HAP.out _) ?_))
  refine (HALL.out).mono ?_
  rintro e w4 ⟨a4, c4, rfl, ho4, hb4⟩
  have HO4 := Lib.hid ho4
  have HB4 := Lib.hid hb4
  obtain ⟨V, hV⟩ : ∃ V, viewP 5 D = V := ⟨_, rfl⟩
  obtain ⟨m, hm⟩ : ∃ m, V.length = m := ⟨_, rfl⟩
  have hm60 : m ≤ 60 := by
    have h1 := view_len 5 D none
    rw [show Pl.viewGo ckey (lowB 5) tellP Option.none D = V from hV, hm, HN.out] at h1
    omega
  have HVW : Hid (∀ W, Below w3.heap.size w3 W → Calls Try.prog 19 #[.slice (some ⟨G, 0, none⟩) n (n + 2), .int .i64 5] W (PairsPost V m W)) := Lib.hid (fun W hW => view_ok _ D _ 5 W (HIN.out W hW) (by rw [HN.out]; omega) V m hV hm)
  have HVS : Hid (Pl.Srt PairR.key bl V) := Lib.hid (hV ▸ view_srt 5 D HS.out)
  have HM := Lib.hid hm
  clear ho4 hb4 hV hm HALL HAP HWM
  go_wp2_with fail
  refine (HVW.out _ HB4.out).mono ?_
  rintro e w5 ⟨a5, c5, rfl, hh5, hb5⟩
  have hv5 : SlV PairR.cells w5 (fun k => k < w4.heap.size ∨ w5.heap.size ≤ k) (.slice a5 m c5) V := by
    have h1 := hh5
    rw [← HM.out] at h1 ⊢
    exact SlV.lim (SlV.of_has h1) (fun b hb hs hx => by omega)
  have HV5 := Lib.hid hv5
  obtain ⟨-, hc51, hc52⟩ := SlV.len hv5
  unfold maxLen at hc52
  have HB5 := Lib.hid hb5
  obtain ⟨wn, hwn⟩ : ∃ wn, w5.alloc (.cells (madeCells (Value.agg #[.string ⟨#[]⟩, .string ⟨#[]⟩]).cells ((m + 3) * 2)) 49) = wn := ⟨_, rfl⟩
  obtain ⟨w6, hap, hsz6, hb6, hf6⟩ := keeps_base a5 m c5 V w5 wn _ hv5 hm60 hwn
  have HAP := Lib.hid hap
  have HB6 := Lib.hid hb6
  have HF6 := Lib.hid hf6
  have HWN := Lib.hid hwn
  have HSZ6 := Lib.hid hsz6
  obtain ⟨G2, hG2⟩ : ∃ G2, w5.heap.size = G2 := ⟨_, rfl⟩
  rw [hG2] at HAP HSZ6 HF6
  have HBA : Hid (∀ W, Below w6.heap.size w6 W → SlV PairR.cells W (fun _ => False) (.slice (some ⟨G2, 0, none⟩) m (m + 3)) V) := Lib.hid (fun W hW => by
    have h1 := SlV.cutHi PairR.cells_len (hf6.below hW) m (by omega) _ rfl
    rw [List.take_left' HM.out, hG2] at h1
    exact h1.mono (fun _ h => h.elim))
  have HW6 : Hid (Below w.heap.size w w6) := Lib.hid (by
    have q2 := HB2.out.trans (HB3.out.mono HB2.out.size)
    have q4 := q2.trans (HB4.out.mono q2.size)
    have q5 := q4.trans (hb5.mono q4.size)
    exact q5.trans (hb6.mono q5.size))
  have HOV : Hid (∀ k, k ≤ no → k ≤ 50 → Calls Try.prog 24 #[.slice (some ⟨G2, 0, none⟩) m (m + 3), .slice ao k co] w6 (fun e w' => ∃ a c r R, e = .returned (.slice a r c) ∧ Own2 w' w6.heap.size (.slice a r c) R ∧ R.length = r ∧ Below w6.heap.size w6 w')) := Lib.hid (fun k hk hk2 =>
    (over_ok _ V _ _ (ops.take k) S' w6 (HBA.out _ (Below.refl _ _)) (SlV.cutHi OpR.cells_len (HO.out.below HW6.out) k hk _ rfl) HVS.out (by rw [HM.out, List.length_take, HNO.out]; omega) _ _ rfl rfl).mono (by
      rintro e w' ⟨a, c, rfl, h1, h2⟩
      exact ⟨a, c, _, _, rfl, h1, rfl, h2⟩))
  clear hh5 hb5 hv5 hwn hap hsz6 hb6 hf6 HVW
  go_wp2_with (first
    | (with_reducible refine wpList_make_cells _ rfl _ (.tmp 38) 46 rfl 49 j0 (.agg #[.string ⟨#[]⟩, .string ⟨#[]⟩]) 2 Try.underlying46 hj0 hy0 hy1 .i64 .i64 ((m : Int) + 3) (m + 3) rfl rfl (by omega) (by rw [hy2]; omega) (by omega) wn HWN.out ?_)
    | (with_reducible refine Lib.wpList_append_run _ rfl (.tmp 39) (.tmp 40) 46 46 rfl (.slice (some ⟨G2, 0, none⟩) 0 (m + 3)) (.slice a5 m c5) rfl rfl _ _ (HAP.out _) ?_))
  all_goals
    refine (HOV.out _ (by omega) (by omega)).mono ?_
    rintro e w7 ⟨a7, c7, r, R, rfl, ho7, hr, hb7⟩
    have HW7 : Hid (Below w.heap.size w w7) := Lib.hid (HW6.out.trans (hb7.mono HW6.out.size))
    obtain ⟨-, hrc, hrm⟩ := SlV.len (show SlV PairR.cells w7 _ (.slice a7 R.length c7) R from by rw [hr]; exact ho7.sl)
    unfold maxLen at hrm
    rw [hr] at hrc
    have HG4 : Hid (0 < n → ∃ g, a4 = some ⟨g, 0, none⟩ ∧ w3.heap.size ≤ g ∧ g < w4.heap.size) := Lib.hid (fun h0 => by
      obtain ⟨g, cap, he, h1, h2, -⟩ := Wr.own HO4.out h0
      simp only [Value.slice.injEq] at he
      exact ⟨g, he.1, h1, h2⟩)
    have HQ4 : Hid (Below w4.heap.size w4 w7) := Lib.hid (by
      have q6 := HB5.out.trans (HB6.out.mono HB5.out.size)
      exact q6.trans (hb7.mono q6.size))
    have HR4 : Hid (∀ g, a4 = some ⟨g, 0, none⟩ → Wr w7 g (n * 4)) := Lib.hid (fun g hg => by
      by_cases h0 : 0 < n
      · obtain ⟨g', cap, he, h1, h2, h3⟩ := Wr.own HO4.out h0
        simp only [Value.slice.injEq] at he
        have e1 := he.1
        rw [hg] at e1
        simp only [Option.some.injEq, Addr.mk.injEq, and_true] at e1
        subst e1
        exact h3.mod (Mod.of_below HQ4.out (Nat.le_refl _) : Mod (fun _ => False) w4 w7) h2 (fun h => h)
      · obtain rfl : n = 0 := by omega
        intro j hj
        omega)
    have HR7 : Hid (0 < r → ∃ g, a7 = some ⟨g, 0, none⟩ ∧ w6.heap.size ≤ g ∧ g < w7.heap.size ∧ Wr w7 g (r * 2)) := Lib.hid (fun h0 => by
      have h9 : w7.ownsRow w6.heap.size 49 2 (.slice a7 r c7) r (flat PairR.cells R) := by unfold Own2 at ho7; rw [hr] at ho7; exact ho7
      obtain ⟨g, cap, he, h1, h2, h3⟩ := Wr.own h9 h0
      simp only [Value.slice.injEq] at he
      exact ⟨g, he.1, h1, h2, h3⟩)
    have HB7 := Lib.hid hb7
    clear hb7 ho7 hr HOV HO HNO
    go_wp2_with fail
    go_loopg [12] n (fun gm s12 wr => ∃ k : Nat, gm = n - k ∧ s12 = .int .i64 (k : Nat) ∧ k ≤ n ∧ Hid (∀ g, a4 = some ⟨g, 0, none⟩ → Wr wr g (n * 4)) ∧ Hid (Mod (fun b => w3.heap.size ≤ b ∧ b < w4.heap.size) w7 wr))
    case atStart => exact ⟨0, by omega, rfl, Nat.zero_le _, HR4, Lib.hid (Mod.refl _ _)⟩
    case round =>
      obtain ⟨k, rfl, rfl, hk, HWR, HMD⟩ := hrel
      by_cases hlt : k < n
      · have hltI : (k : Int) < n := by omega
        obtain ⟨g, rfl, hg1, hg2⟩ := HG4.out (by omega)
        have hw := HWR.out g rfl
        obtain ⟨u0, x0⟩ := hw.some (k * 4) (by omega)
        obtain ⟨u1, x1⟩ := hw.some (k * 4 + 1) (by omega)
        obtain ⟨u2, x2⟩ := hw.some (k * 4 + 2) (by omega)
        obtain ⟨u3, x3⟩ := hw.some (k * 4 + 3) (by omega)
        have f0 := (hw (k * 4) (by omega)).2
        have f1 := (hw (k * 4 + 1) (by omega)).2
        have f2 := (hw (k * 4 + 2) (by omega)).2
        have f3 := (hw (k * 4 + 3) (by omega)).2
        have HX := Lib.hid hw
        clear hw
        go_wp2
        go_roundg (n - (k + 1))
        case measure => omega
        case rel => exact ⟨k + 1, rfl, by go_num, by omega, Lib.hid (fun g' hg' => by cases hg'; exact (((HX.out.set _ _).set _ _).set _ _).set _ _), Lib.hid ((((HMD.out.set _ _ _ ⟨hg1, hg2⟩).set _ _ _ ⟨hg1, hg2⟩).set _ _ _ ⟨hg1, hg2⟩).set _ _ _ ⟨hg1, hg2⟩)⟩
      · have hge : decide ((k : Int) < n) = false := by simp; omega
        have HL46 : Hid (w4.heap.size ≤ w6.heap.size) := Lib.hid (Nat.le_trans HB5.out.size HB6.out.size)
        have HR8 : Hid (∀ g, a7 = some ⟨g, 0, none⟩ → Wr wr g (r * 2)) := Lib.hid (fun g hg => by
          by_cases h0 : 0 < r
          · obtain ⟨g', he, h1, h2, h3⟩ := HR7.out h0
            rw [hg] at he
            simp only [Option.some.injEq, Addr.mk.injEq, and_true] at he
            subst he
            exact h3.mod HMD.out h2 (fun h => by have := HL46.out; omega)
          · obtain rfl : r = 0 := by omega
            intro j hj
            omega)
        have HM8 : Hid (Mod (fun b => (w3.heap.size ≤ b ∧ b < w4.heap.size) ∨ w6.heap.size ≤ b) w7 wr) := Lib.hid (HMD.out.mono (fun b hb => .inl hb))
        clear HWR HMD HR4 HG4
        go_wp2_with fail
        go_loopg [13] r (fun gm s13 wl => ∃ k : Nat, gm = r - k ∧ s13 = .int .i64 (k : Nat) ∧ k ≤ r ∧ Hid (∀ g, a7 = some ⟨g, 0, none⟩ → Wr wl g (r * 2)) ∧ Hid (Mod (fun b => (w3.heap.size ≤ b ∧ b < w4.heap.size) ∨ w6.heap.size ≤ b) w7 wl))
        case atStart => exact ⟨0, by omega, rfl, Nat.zero_le _, HR8, HM8⟩
        case round =>
          obtain ⟨t, rfl, rfl, ht, HWR, HMD⟩ := hrel
          by_cases hlt2 : t < r
          · have hltI : (t : Int) < r := by omega
            obtain ⟨g, rfl, hg1, hg2, -⟩ := HR7.out (by omega)
            have hw := HWR.out g rfl
            obtain ⟨u0, x0⟩ := hw.some (t * 2) (by omega)
            obtain ⟨u1, x1⟩ := hw.some (t * 2 + 1) (by omega)
            have f0 := (hw (t * 2) (by omega)).2
            have f1 := (hw (t * 2 + 1) (by omega)).2
            have HX := Lib.hid hw
            clear hw
            go_wp2
            go_roundg (r - (t + 1))
            case measure => omega
            case rel => exact ⟨t + 1, rfl, by go_num, by omega, Lib.hid (fun g' hg' => by cases hg'; exact (HX.out.set _ _).set _ _), Lib.hid ((HMD.out.set _ _ _ (.inr hg1)).set _ _ _ (.inr hg1))⟩
          · have hge2 : decide ((t : Int) < r) = false := by simp; omega
            obtain ⟨wl, hwl⟩ : ∃ wl : World, wl = wr := ⟨_, rfl⟩
            subst hwl
            have HQ37 : Hid (Below w3.heap.size w3 w7) := Lib.hid (HB4.out.trans (HQ4.out.mono HB4.out.size))
            have HQ67 : Hid (w6.heap.size ≤ w7.heap.size) := Lib.hid HB7.out.size
            have HL34 : Hid (w3.heap.size ≤ w4.heap.size) := Lib.hid HB4.out.size
            have HL45 : Hid (w4.heap.size ≤ w5.heap.size) := Lib.hid HB5.out.size
            have HC9 : Hid (CV wl (fun _ => False) (.slice a n c) D) := Lib.hid (by
              have q := (HC.out.below (HB3.out.trans (HQ37.out.mono HB3.out.size))).mod (HMD.out.mono (fun b hb => by have h1 := HSZ3.out; have h2 := HL34.out; have h3 := HL46.out; omega))
              exact q.mono (fun _ h => h.elim))
            have HF9 : Hid (CV wl (fun _ => False) (.slice (some ⟨G, 0, none⟩) (n + 2) (n + 2)) (D ++ [zCell, zCell])) := Lib.hid (by
              have q := (HF3.out.below HQ37.out).mod (HMD.out.mono (fun b hb => by have h1 := HSZ3.out; have h2 := HL34.out; have h3 := HL46.out; omega))
              exact q.mono (fun _ h => h.elim))
            have HV9 : Hid (SlV PairR.cells wl (fun _ => False) (.slice a5 m c5) V) := Lib.hid (by
              have q := (HV5.out.below (HB6.out.trans (HB7.out.mono HB6.out.size))).mod (HMD.out.mono (fun b hb => by have h1 := HB6.out.size; omega))
              exact q.mono (fun _ h => h.elim))
            have HP9 : Hid (SlV PairR.cells wl (fun _ => False) (.slice (some ⟨G2, 0, none⟩) (m + 3) (m + 3)) (V ++ [zPair, zPair, zPair])) := Lib.hid (by
              have q := (HF6.out.below HB7.out).mod (HMD.out.mono (fun b hb => by have h1 := HSZ6.out; have h2 := HL45.out; omega))
              exact q.mono (fun _ h => h.elim))
            have HW9 : Hid (Below w.heap.size w wl) := Lib.hid (HW7.out.trans (HMD.out.below (fun b hb => by
              have q2 := HB2.out.size
              have q3 := HB3.out.size
              have q1 := HW6.out.size
              omega) HW7.out.size))
            clear HWR HMD HM8 HR8 HR7 HC HF3 HV5 HF6 HB7 HQ37 HQ67 HL34 HL45 HL46 HW7 HQ4 HO4 HB5 HB6 HSZ3 HSZ6 HBA HIN HW6 HB4 HB3 HB2 hG hG2 HAP HWN
            go_wp2_with fail
            go_quiet (fail)
            go_wp2_with fail
            have HZC : Hid (∀ i, n ≤ i → i < n + 2 → (D ++ [zCell, zCell])[i]? = some zCell) := Lib.hid (fun i h1 h2 => tail_get D _ n i zCell HN.out h1 (fun j hj => by
              match j, hj with
              | 0, _ => rfl
              | 1, _ => rfl) h2)
            have HZP : Hid (∀ i, m ≤ i → i < m + 3 → (V ++ [zPair, zPair, zPair])[i]? = some zPair) := Lib.hid (fun i h1 h2 => tail_get V _ m i zPair HM.out h1 (fun j hj => by
              match j, hj with
              | 0, _ => rfl
              | 1, _ => rfl
              | 2, _ => rfl) h2)
            go_loopg [16] 2 (fun gm s16 wi => ∃ i d : Nat, gm = n + 2 - i ∧ s16 = .int .i64 (i : Nat) ∧ n ≤ i ∧ i ≤ n + 2 ∧ wi = wl.drewN d)
            case atStart => exact ⟨n, _, by omega, rfl, Nat.le_refl _, by omega, rfl⟩
            case round =>
              obtain ⟨i, d, rfl, rfl, hi1, hi2, hwi⟩ := hrel
              subst hwi
              by_cases hi3 : i < n + 2
              · have hiI : (i : Int) < (n : Int) + 2 := by omega
                obtain ⟨bb, o, hbo, -, -, hcs⟩ := CV.of HF9.out (by omega)
                simp only [Option.some.injEq, Addr.mk.injEq, and_true] at hbo
                obtain ⟨rfl, rfl⟩ := hbo
                obtain ⟨x1, x2, x3, x4⟩ := hcs i zCell (HZC.out i hi1 hi3)
                simp only [Nat.zero_add, zCell] at x1 x2 x3 x4
                have hne := run_cellNe zCell
                simp only [CellR.value, zCell] at hne
                clear hcs
                go_wp2
                go_roundg (n + 2 - (i + 1))
                case measure => omega
                case rel => exact ⟨i + 1, _, rfl, by go_num, by omega, by omega, rfl⟩
              · have hge3 : decide ((i : Int) < (n : Int) + 2) = false := by simp; omega
                clear hi3
                go_wp2_with fail
                go_loopg [17] 3 (fun gm s17 wi => ∃ i d : Nat, gm = m + 3 - i ∧ s17 = .int .i64 (i : Nat) ∧ m ≤ i ∧ i ≤ m + 3 ∧ wi = wl.drewN d)
                case atStart => exact ⟨m, _, by omega, rfl, Nat.le_refl _, by omega, rfl⟩
                case round =>
                  obtain ⟨i5, d5, rfl, rfl, hp1, hp2, hwi⟩ := hrel
                  subst hwi
                  by_cases hp3 : i5 < m + 3
                  · have hiI : (i5 : Int) < (m : Int) + 3 := by omega
                    obtain ⟨bb, o, hbo, -, -, hcs⟩ := PV.of HP9.out (by omega)
                    simp only [Option.some.injEq, Addr.mk.injEq, and_true] at hbo
                    obtain ⟨rfl, rfl⟩ := hbo
                    obtain ⟨x1, x2⟩ := hcs i5 zPair (HZP.out i5 hp1 hp3)
                    simp only [Nat.zero_add, zPair] at x1 x2
                    have hne := run_pairNe zPair
                    simp only [zPair] at hne
                    clear hcs
                    go_wp2
                    go_roundg (m + 3 - (i5 + 1))
                    case measure => omega
                    case rel => exact ⟨i5 + 1, _, rfl, by go_num, by omega, by omega, rfl⟩
                  · have hge4 : decide ((i5 : Int) < (m : Int) + 3) = false := by simp; omega
                    clear hp3
                    have HW10 := Lib.hid (below_dn HW9.out d5)
                    have HBD := Lib.hid (below_dn (Below.refl wl.heap.size wl) d5)
                    have HCI : Hid (CV (wl.drewN d5) (fun _ => False) (.slice (some ⟨G, 0, none⟩) n (n + 2)) D) := Lib.hid (by
                      have q := SlV.cutHi CellR.cells_len (HF9.out.below HBD.out) n (by omega) _ rfl
                      rw [List.take_left' HN.out] at q
                      exact q)
                    have HCS := Lib.hid (cells_bel _ _ D _ _ _ HCI.out (HC9.out.below HBD.out))
                    have HPI : Hid (∀ W, Below wl.heap.size wl W → SlV PairR.cells W (fun _ => False) (.slice (some ⟨G2, 0, none⟩) m (m + 3)) V) := Lib.hid (fun W hW => by
                      have q := SlV.cutHi PairR.cells_len (HP9.out.below hW) m (by omega) _ rfl
                      rw [List.take_left' HM.out] at q
                      exact q)
                    go_wp2_with fail
                    refine (HCS.out).mono ?_
                    rintro e wa ⟨rfl, hba⟩
                    have HBA := Lib.hid (HBD.out.trans (show Below wl.heap.size (wl.drewN d5) wa from hba.mono HBD.out.size))
                    have HW11 := Lib.hid (HW10.out.trans (hba.mono HW10.out.size))
                    clear hba
                    go_wp2_with fail
                    refine (pairs_eq _ _ V _ _ _ (HPI.out _ HBA.out) (HV9.out.below HBA.out)).mono ?_
                    rintro e wb ⟨rfl, hbb⟩
                    have HW12 := Lib.hid (HW11.out.trans (hbb.mono HW11.out.size))
                    clear hbb
                    go_wp2
                    go_ret
                    exact ⟨rfl, HW12.out⟩
end Go.Proofs.Ytcgkpgjjifggcaa
