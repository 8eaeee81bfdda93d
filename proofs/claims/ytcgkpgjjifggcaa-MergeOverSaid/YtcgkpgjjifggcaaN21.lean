/-
  Merge: contract of the law's split.
-/
import Derived.Test.YtcgkpgjjifggcaaN20
import Derived.Deep.RegionLaw
namespace Go.Proofs.Ytcgkpgjjifggcaa
set_option linter.unusedVariables false
set_option linter.unusedSimpArgs false
open Go.RowKit Sl

def intE (x : Int) : List Value := [.int .i64 x]
theorem Try.infoCells' : (Try.prog.info? 22).map (fun i => (i.zero, i.size, i.bytes)) = some (some (.slice none 0 0), 1, 24) := by kernel_rfl
theorem bag_start (w : World) (n : Nat) : Bag w (w.alloc (.cells (madeCells #[.slice none 0 0] n) 22)) w.heap.size n 0 (fun _ => none) (fun _ => []) (fun _ => 0) :=
  ⟨(World.rowIs_made w (.slice none 0 0) n 22).congr (fun j hj => rfl), fun j hj => Has.nil _ _ _, fun j hj => Nat.le_refl _, fun j j' hj hj2 hne g hg => by simp [slF, Value.ownBlock] at hg, (Below.refl _ _).alloc (Nat.le_refl _) _, Nat.le_refl _⟩

theorem split_k (x : Int) (n : Nat) (h1 : 1 ≤ n) (h2 : n ≤ 100) : ∃ k : Nat, wrap64 ((IntKind.u64.wrap x).tmod n) = k ∧ k < n := by
  have h0 : 0 ≤ x % 18446744073709551616 := Int.emod_nonneg _ (by decide)
  have h3 : 0 ≤ (x % 18446744073709551616) % (n : Int) := Int.emod_nonneg _ (by omega)
  have h4 : (x % 18446744073709551616) % (n : Int) < n := Int.emod_lt_of_pos _ (by omega)
  refine ⟨((x % 18446744073709551616) % (n : Int)).toNat, ?_, by omega⟩
  rw [IntKind.wrap_u64, Int.tmod_eq_emod_of_nonneg h0, Int.toNat_of_nonneg h3]
  have h5 : (x % 18446744073709551616) % (n : Int) < 100 := by omega
  generalize (x % 18446744073709551616) % (n : Int) = y at *
  first | exact IntWalk.i64_in _ (by omega) | (show IntKind.i64.wrap y = y; exact IntWalk.i64_in _ (by omega)) | (unfold wrap64; omega)
set_option maxRecDepth 100000 in
set_option maxHeartbeats 6400000 in
theorem split_ok (v : Value) (l : List CellR) (S : Nat → Prop) (vw : Value) (xs : List Int) (S' : Nat → Prop) (n : Nat) (w : World) (h : CV w S v l) (hw : SlV intE w S' vw xs) (hn1 : 1 ≤ n) (hn2 : n ≤ 100) :
    Calls Try.prog 10 #[v, vw, .int .i64 n] w (SplitPost n w) := by
  obtain ⟨i0, hi, hz0, hz1, hz2⟩ := info_parts Try.infoCell
  obtain ⟨ao, cap, hv⟩ := h.shape
  obtain ⟨ln, hln⟩ : ∃ ln, l.length = ln := ⟨_, rfl⟩
  rw [hln] at hv
  subst hv
  obtain ⟨aw, cw, hvw⟩ := hw.shape
  obtain ⟨lw, hlw⟩ : ∃ lw, xs.length = lw := ⟨_, rfl⟩
  rw [hlw] at hvw
  subst hvw
  have HV := Lib.hid h
  have HN := Lib.hid hln
  have HVW := Lib.hid hw
  have HNW := Lib.hid hlw
  obtain ⟨-, h2, h3⟩ := SlV.len h
  obtain ⟨-, h2w, h3w⟩ := SlV.len hw
  unfold maxLen at h3 h3w
  have HST := Lib.hid (bag_start w n)
  have hmk := run_make_row' (P := Try.prog) 25 22 (.slice none 0 0) 24 Try.underlying25 Try.infoCells' rfl .i64 .i64 n (by omega) (by omega)
  clear h hln hw hlw
  go_enter Try.func10, Try.ntmps10
  go_wp2
  clear hmk
  go_loopg [8] 101 (fun g s8 wr => ∃ (i : Nat) (A : Nat → Option Addr) (Ds : Nat → List CellR) (C : Nat → Nat), g = 101 - i ∧ s8 = .int .i64 i ∧ i ≤ ln ∧ i ≤ 100 ∧ Hid (Bag w wr w.heap.size n i A Ds C))
  case atStart => exact ⟨0, _, _, _, by omega, rfl, Nat.zero_le _, by omega, HST⟩
  case round =>
    obtain ⟨i, A, Ds, C, rfl, rfl, hil, hi100, HB⟩ := hrel
    by_cases hlt : i < ln ∧ i < 100
    · obtain ⟨hlt, hlt6⟩ := hlt
      have hltI : (i : Int) < ln := by omega
      have hlt6I : (i : Int) < 100 := by omega
      have a1 : (0 : Int) ≤ (i : Int) := by omega
      go_upto_if 26 with fail
      go_cut [9] from 27 to 35 (fun s9 wx => ∃ k : Nat, s9 = .int .i64 k ∧ k < n ∧ wx = wr)
      case first =>
        by_cases hiw : i < lw
        · have hiwI : (i : Int) < lw := by omega
          obtain ⟨b, o, cap', e1, -, -, -, -, hxs⟩ := SlV.at (size := 1) (fun _ => rfl) (HVW.out.below HB.out.bel) (fun e => by have := HNW.out; rw [e] at this; simp at this; omega)
          simp only [Value.slice.injEq] at e1
          obtain ⟨rfl, -, -⟩ := e1
          have hx := hxs i (by rw [HNW.out]; exact hiw) 0 _ (by decide) rfl
          rw [Nat.mul_one, Nat.add_zero] at hx
          generalize xs[i]'(by rw [HNW.out]; exact hiw) = x at hx
          clear hxs
          go_wp2_with fail
          go_meet
          obtain ⟨k, hk1, hk2⟩ := split_k x n hn1 hn2
          exact ⟨k, by rw [hk1], hk2, rfl⟩
        · have hge : decide ((i : Int) < lw) = false := by simp; omega
          go_wp2_with fail
          go_meet
          exact ⟨0, rfl, by omega, rfl⟩
      case rest =>
        obtain ⟨k, rfl, hk, rfl⟩ := hcut
        obtain ⟨bb, o, rfl, hS, hbl, hcs⟩ := CV.of (HV.out.below HB.out.bel) (by omega)
        obtain ⟨c, hc⟩ := get_of (l := l) (k := i) (by have := HN.out; omega)
        obtain ⟨x1, x2, x3, x4⟩ := hcs i c hc
        obtain ⟨a0, ha0⟩ : ∃ a0, A k = a0 := ⟨_, rfl⟩
        obtain ⟨c0, hc0⟩ : ∃ c0, C k = c0 := ⟨_, rfl⟩
        obtain ⟨m, hm⟩ : ∃ m, (Ds k).length = m := ⟨_, rfl⟩
        have hsl : slF A Ds C k = .slice a0 m c0 := by unfold slF; rw [ha0, hc0, hm]
        have HSL := Lib.hid hsl
        have HM := Lib.hid hm
        have hrow := HB.out.row.cell hk
        have hfr := HB.out.row.frozen k
        have hmi : m ≤ i := by rw [← hm]; exact HB.out.len k hk
        have hhas := HB.out.has k hk
        have hGl := HB.out.row.lt
        rw [hsl] at hrow hhas
        rw [hm] at hhas
        have HH := Lib.hid hhas
        have hlt9 := fun g hg => (HH.out.lt g hg).1
        have HOW : Hid (¬ some w.heap.size = (Value.slice a0 m c0).ownBlock) := Lib.hid (fun e => Nat.not_succ_le_self _ (hlt9 _ e.symm))
        have HKK : Hid (∀ W wa, Below wc.heap.size wc W → W.grownBy wa (Value.slice a0 m c0).ownBlock → wa.cell? ⟨w.heap.size, k, none⟩ = some (.slice a0 m c0) ∧ wa.frozen? ⟨w.heap.size, k, none⟩ = false) := Lib.hid (fun W wa hW ga => by
          have q3 := ga.block w.heap.size (Nat.lt_of_lt_of_le hGl hW.size) HOW.out
          rw [World.cell?_of_block (a := ⟨w.heap.size, k, none⟩) q3, World.frozen?_of_block (a := ⟨w.heap.size, k, none⟩) q3, hW.cell (p := ⟨w.heap.size, k, none⟩) hGl, hW.frozen (p := ⟨w.heap.size, k, none⟩) hGl]
          exact ⟨hrow, hfr⟩)
        have hkI : (0 : Int) ≤ (k : Int) := by omega
        have hkn : (k : Int) < n := by omega
        clear hcs hc ha0 hc0 hm hsl hhas hlt9 hS
        go_wp2_with fail
        go_region_law
          (first
          | (refine step_append_sl _ rfl (some 47) (by rfl) (.tmp 41) (.tmp 46) 22 (by rfl) (w.heap.size + 1) 42 i0 (.agg #[.string ⟨#[]⟩, .int .i64 0, .int .i64 0, .string ⟨#[]⟩]) 4 48 Try.underlying22 hi hz0 hz1 hz2 rfl (by decide) (.slice a0 m c0) m (flat CellR.cells (Ds k)) (by rfl) (HH.out.alloc _) ⟨wc.heap.size, 0, none⟩ 1 1 c.cells (by rfl) (by rfl) (news_cell _ _ c (by simp [go_sem]) (by simp [go_sem]) (by simp [go_sem]) (by simp [go_sem])) (CellR.cells_one c) (by unfold maxLen; omega) (by omega) (Nat.le_trans hGl (bel_a1 _ _).size) ?_; intro a3 c3 wa ha ga na; obtain ⟨hk3, hk4⟩ := HKK.out _ _ (bel_a1 _ _) ga))
        all_goals
          have HBP := Lib.hid (bag_push HB.out hk (bel_a1 _ _) c a3 c3 (by rw [HM.out]; exact ha) (by rw [HSL.out]; exact ga) (by rw [HM.out, HSL.out]; exact na))
          rw [HM.out] at HBP
          clear ha ga na hk3 hk4
          go_wp2
          go_roundg (101 - (i + 1))
          case measure => omega
          case rel => exact ⟨i + 1, _, _, _, rfl, by go_num, by omega, by omega, HBP⟩
    · have HBS := Lib.hid (bags_of HB.out)
      by_cases hlt2 : i < ln
      · have hlt2I : (i : Int) < ln := by omega
        have hge6 : decide ((i : Int) < 100) = false := by simp; omega
        clear HB
        go_wp2_with fail
        go_loopg [10] n (fun g s10 wr => ∃ (i : Nat) (A : Nat → Option Addr) (Ds : Nat → List CellR) (C : Nat → Nat), g = n - i ∧ s10 = .int .i64 i ∧ i ≤ n ∧ Hid (Bags w wr w.heap.size n i A Ds C))
        case atStart => exact ⟨0, A, Ds, C, by omega, rfl, Nat.zero_le _, HBS⟩
        case round =>
          clear HBS
          obtain ⟨j, A, Ds, C, rfl, rfl, hjn, HB⟩ := hrel
          by_cases hj : j < n
          · have hjI : (j : Int) < n := by omega
            have hj0 : (0 : Int) ≤ (j : Int) := by omega
            obtain ⟨a0, ha0⟩ : ∃ a0, A j = a0 := ⟨_, rfl⟩
            obtain ⟨c0, hc0⟩ : ∃ c0, C j = c0 := ⟨_, rfl⟩
            obtain ⟨m, hm⟩ : ∃ m, (Ds j).length = m := ⟨_, rfl⟩
            have hsl : slF A Ds C j = .slice a0 m c0 := by unfold slF; rw [ha0, hc0, hm]
            have hrow := HB.out.row.cell hj
            have hfr := HB.out.row.frozen j
            have hGl := HB.out.row.lt
            have hcv := HB.out.cv j hj
            rw [hsl] at hrow hcv
            have HSO := Lib.hid (sort_ok (.slice a0 m c0) (Ds j) _ _ hcv)
            clear ha0 hc0 hm hsl hcv
            go_wp2_with fail
            refine (HSO.out).mono ?_
            rintro e w2 ⟨v2, D, rfl, hs2, hl2, hh2, hb2⟩
            obtain ⟨a3, c3, rfl, -⟩ := hh2.shape
            have HBP := Lib.hid (bags_step HB.out hj D a3 c3 hs2 hl2 hh2 hb2)
            have hrow2 := (hb2.cell (p := ⟨w.heap.size, j, Option.none⟩) hGl).trans hrow
            have hfr2 := (hb2.frozen (p := ⟨w.heap.size, j, Option.none⟩) hGl).trans hfr
            obtain ⟨m2, hm2⟩ : ∃ m2, D.length = m2 := ⟨_, rfl⟩
            rw [hm2] at HBP ⊢
            clear hs2 hl2 hh2 hb2 hrow hfr hm2 HSO
            go_wp2
            go_roundg (n - (j + 1))
            case measure => omega
            case rel => exact ⟨j + 1, _, _, _, rfl, by go_num, by omega, HBP⟩
          · have hge : decide ((j : Int) < n) = false := by simp; omega
            have HD := Lib.hid (bags_done HB.out (by omega) (by unfold maxLen; omega))
            go_wp2
            go_ret
            exact HD.out
      · have hge6 : decide ((i : Int) < ln) = false := by simp; omega
        clear HB
        go_wp2_with fail
        go_loopg [10] n (fun g s10 wr => ∃ (i : Nat) (A : Nat → Option Addr) (Ds : Nat → List CellR) (C : Nat → Nat), g = n - i ∧ s10 = .int .i64 i ∧ i ≤ n ∧ Hid (Bags w wr w.heap.size n i A Ds C))
        case atStart => exact ⟨0, A, Ds, C, by omega, rfl, Nat.zero_le _, HBS⟩
        case round =>
          clear HBS
          obtain ⟨j, A, Ds, C, rfl, rfl, hjn, HB⟩ := hrel
          by_cases hj : j < n
          · have hjI : (j : Int) < n := by omega
            have hj0 : (0 : Int) ≤ (j : Int) := by omega
            obtain ⟨a0, ha0⟩ : ∃ a0, A j = a0 := ⟨_, rfl⟩
            obtain ⟨c0, hc0⟩ : ∃ c0, C j = c0 := ⟨_, rfl⟩
            obtain ⟨m, hm⟩ : ∃ m, (Ds j).length = m := ⟨_, rfl⟩
            have hsl : slF A Ds C j = .slice a0 m c0 := by unfold slF; rw [ha0, hc0, hm]
            have hrow := HB.out.row.cell hj
            have hfr := HB.out.row.frozen j
            have hGl := HB.out.row.lt
            have hcv := HB.out.cv j hj
            rw [hsl] at hrow hcv
            have HSO := Lib.hid (sort_ok (.slice a0 m c0) (Ds j) _ _ hcv)
            clear ha0 hc0 hm hsl hcv
            go_wp2_with fail
            refine (HSO.out).mono ?_
            rintro e w2 ⟨v2, D, rfl, hs2, hl2, hh2, hb2⟩
            obtain ⟨a3, c3, rfl, -⟩ := hh2.shape
            have HBP := Lib.hid (bags_step HB.out hj D a3 c3 hs2 hl2 hh2 hb2)
            have hrow2 := (hb2.cell (p := ⟨w.heap.size, j, Option.none⟩) hGl).trans hrow
            have hfr2 := (hb2.frozen (p := ⟨w.heap.size, j, Option.none⟩) hGl).trans hfr
            obtain ⟨m2, hm2⟩ : ∃ m2, D.length = m2 := ⟨_, rfl⟩
            rw [hm2] at HBP ⊢
            clear hs2 hl2 hh2 hb2 hrow hfr hm2 HSO
            go_wp2
            go_roundg (n - (j + 1))
            case measure => omega
            case rel => exact ⟨j + 1, _, _, _, rfl, by go_num, by omega, HBP⟩
          · have hge : decide ((j : Int) < n) = false := by simp; omega
            have HD := Lib.hid (bags_done HB.out (by omega) (by unfold maxLen; omega))
            go_wp2
            go_ret
            exact HD.out
end Go.Proofs.Ytcgkpgjjifggcaa
