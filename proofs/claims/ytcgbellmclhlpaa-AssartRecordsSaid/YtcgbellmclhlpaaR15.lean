/-
  Records: contract of batch's Encode.
-/
import Derived.Test.YtcgbellmclhlpaaR14
import Derived.Test.YtcgbellmclhlpaaG3
import Derived.Deep.RegionHeldLaw
import Derived.Deep.AppendLies
import Derived.Deep.DeepCutAuto
namespace Go.Proofs.Ytcgbellmclhlpaa
set_option linter.unusedVariables false
set_option linter.unusedSimpArgs false
open Go.RowKit Vi Sl

theorem news_one {w : World} {g k : Nat} (h : w.cell? ⟨g, 0, none⟩ = some (.int .u8 (k : Nat))) : ∀ j u, (byteV [k])[j]? = some u → w.cell? ((⟨g, 0, none⟩ : Addr).add j) = some u := by
  intro j u hj
  match j, hj with
  | 0, hj =>
    simp [byteV] at hj
    subst hj
    rw [Addr.add_lit]
    exact h
set_option maxRecDepth 100000 in
set_option maxHeartbeats 3200000 in
theorem encode_ok (seq g o cap : Nat) (l : List OpR) (hg : Good seq l) (w : World) (h1 : OpsAt w g o l) :
    Calls Try.prog 6 #[.int .i64 seq, .slice (some ⟨g, o, none⟩) l.length cap] w fun e w' => ∃ v L, e = .returned (.tuple #[v, .int .i64 0]) ∧ Enc seq l L ∧ Has w' w.heap.size 1 v L.length (byteV L) ∧ Below w.heap.size w w' := by
  obtain ⟨i0, hi, hz0, hz1, hz2⟩ := info_parts Try.infoByte
  have HC := Lib.hid (check_ok seq g o cap l hg w h1)
  have HF8 := Lib.hid (fixed_ok seq 8 (by have := hg.2.2.2.2; omega) (by decide) (fun h => by omega))
  have HF4 := Lib.hid (fixed_ok l.length 4 (by have := hg.2.1; omega) (by decide) (fun _ => by have := hg.2.1; omega))
  have H1 := Lib.hid h1
  have HG := Lib.hid hg
  have hl1 := hg.1
  have hl2 := hg.2.1
  have hs2 := hg.2.2.2.2
  obtain ⟨n, hn⟩ : ∃ n, l.length = n := ⟨_, rfl⟩
  have HN := Lib.hid hn
  rw [hn] at HF4 hl1 hl2 hs2 HC ⊢
  clear h1 hg hn
  go_enter Try.func6, Try.ntmps6
  go_wp2_with fail
  refine (HC.out).mono ?_
  rintro e w1 ⟨rfl, hb1⟩
  go_wp2_with fail
  refine (HF8.out _).mono ?_
  rintro e w2 ⟨v8, rfl, o8, b2⟩
  have hb1s := hb1.size
  have B2 := Lib.hid (hb1.trans (b2.mono hb1s))
  have O8 := Lib.hid ((Has.of_owns o8).base_le hb1s)
  have b2s := b2.size
  clear hb1 b2 o8
  go_wp2_with fail
  refine (HF4.out _).mono ?_
  rintro e w3 ⟨v4, rfl, o4, b3⟩
  obtain ⟨g4, c4, rfl, hB4, hle4, hm4, r4⟩ := o4.parts (by rw [fixL_len]; decide)
  rw [fixL_len] at hle4 ⊢
  have L4 := Lib.hid (lies_of_reads r4)
  have b3s := b3.size
  have O83 := Lib.hid (O8.out.below b3 (fun g hg => (O8.out.lt g hg).2))
  have B3 := Lib.hid (B2.out.trans (b3.mono (by omega)))
  have hg4 : v8.ownBlock ≠ some g4 := fun h => by have := (O8.out.lt g4 h).2; omega
  rw [fixL_len] at O83
  clear o4 r4 b3
  go_wp2_with (first
    | (at_builtin; refine wpList_append_at _ rfl (.tmp 32) (.tmp 33) 27 rfl w.heap.size 5 i0 (.int .u8 0) 1 1 Try.underlying27 hi hz0 hz1 hz2 rfl (by decide) v8 8 (byteV (fixL seq 8)) rfl O83.out ⟨g4, 0, none⟩ 4 c4 (byteV (fixL n 4)) rfl ?p1 ?p2 ?p3 ?p4 ?p5 ?p6 ?_))
  case p1 => rw [byteV_len, fixL_len]
  case p2 => exact L4.out.add
  case p3 => exact byteV_one _
  case p4 => unfold maxLen; omega
  case p5 => omega
  case p6 => omega
  intro va wa ha ga na
  have BA := Lib.hid (B3.out.grown ga (by omega) (fun g hg => (O83.out.lt g hg).1))
  have HA := Lib.hid ha
  clear ha ga na
  go_wp2
  go_loopw [7, 37] (fun b i wr => ∃ (k : Nat) (a L : List Nat), k ≤ n ∧ i = .int .i64 k ∧ Has wr w.heap.size 1 b L.length (byteV L) ∧ Below w.heap.size w wr ∧ Hid (L = fixL seq 8 ++ fixL n 4 ++ a) ∧ Hid (EncOps (l.take k) a) ∧ L.length ≤ 12 + k * 1200)
    (fun _ i _ => n - (intOf i).toNat)
  case atStart => exact ⟨0, [], fixL seq 8 ++ fixL n 4, Nat.zero_le _, rfl, by rw [List.length_append, fixL_len, fixL_len, byteV_append]; exact HA.out, BA.out, Lib.hid (by simp), Lib.hid rfl, by rw [List.length_append, fixL_len, fixL_len]; omega⟩
  case round =>
    clear O83 B3 B2 O8 HF8 HF4 HC L4 BA HA
    obtain ⟨k, a, L, hk, rfl, hb, hnx, HE, HO, hL⟩ := hrel
    by_cases hkn : k < n
    · have hkl : k < l.length := by rw [HN.out]; exact hkn
      have e1 := H1.out.below hnx H1.out.1
      obtain ⟨c1, c2, c3⟩ := e1.2 k hkl
      have hg1 := e1.1
      have hp := HG.out.2.2.1 _ (List.getElem_mem hkl)
      obtain ⟨xk, xs, xv, hx⟩ : ∃ a b c, l[k] = OpR.mk a b c := ⟨_, _, _, rfl⟩
      rw [hx] at c1 c2 c3 hp
      simp only at c1 c2 c3
      have HX := Lib.hid hx
      have HP := Lib.hid hp
      have HNX := Lib.hid hnx
      have HB := Lib.hid hb
      clear hx e1 hnx hp hb
      have HT := Lib.hid (fun w' => putText_ok xs (by have h0 := HP.out.1.1; simp only at h0; omega) w')
      have hxk : xk = 0 ∨ xk = 1 := by rcases HP.out.2.2 with ⟨h, _⟩ | h; exact .inl h; exact .inr h
      have hLm : L.length ≤ 300000 := by omega
      have hts : xs.size ≤ 64 := HP.out.1.1
      have hbl := HB.out.lt
      have HBL := Lib.hid hbl
      have hnxs := HNX.out.size
      clear hbl
      have HT2 : Hid (∀ w', Calls Try.prog 15 #[.string xs] w' fun e w'' => ∃ gt ct Lt, e = .returned (.slice (some ⟨gt, 0, none⟩) Lt.length ct) ∧ Text xs Lt ∧ w'.heap.size ≤ gt ∧ Lies w'' gt 0 (byteV Lt) ∧ Below w'.heap.size w' w'') := Lib.hid (fun w' => (HT.out w').mono (by
        rintro e w'' ⟨v, kt, rfl, hst, ho, hb⟩
        obtain ⟨gt, ct, rfl, hB, _, _, hr⟩ := ho.parts (by rw [List.length_append, putL_len]; omega)
        exact ⟨gt, ct, _, rfl, ⟨kt, hst, rfl⟩, hB, lies_of_reads hr, hb⟩))
      obtain ⟨kn, hkn2, hkn3⟩ : ∃ kn : Nat, kn ≤ 1 ∧ xk = (kn : Int) := by rcases hxk with rfl | rfl; exact ⟨0, by decide, rfl⟩; exact ⟨1, by decide, rfl⟩
      have HKN := Lib.hid hkn3
      have HW8 : Hid (IntKind.u8.wrap (kn : Int) = kn) := Lib.hid (by rw [IntKind.wrap_u8']; omega)
      rw [hkn3] at c1 HX HP
      clear hxk hkn3 HT
      go_upto_region 10 with fail
      go_cut [7] (fun s7 wx => ∃ Lt, Text xs Lt ∧ Has wx w.heap.size 1 s7 (L ++ [kn] ++ Lt).length (byteV (L ++ [kn] ++ Lt)) ∧ Below w.heap.size w wx ∧ wx.cell? ⟨wr.heap.size, 0, none⟩ = some (.int .i64 kn) ∧ wx.cell? ⟨wr.heap.size, 2, none⟩ = some (.string xv) ∧ wr.heap.size < wx.heap.size)
      case first =>
        go_region_held_law (fun w' => w'.cell? ⟨wr.heap.size, 0, none⟩ = some (.int .i64 kn) ∧ w'.cell? ⟨wr.heap.size, 1, none⟩ = some (.string xs) ∧ w'.cell? ⟨wr.heap.size, 2, none⟩ = some (.string xv))
          (first
            | go_keep
            | (go_split_ands; refine ⟨?_, ?_, ?_⟩ <;> (rw [ga.cell_far _ (by simp; omega) (fun h => by have := (HB.out.lt _ h.symm).2; simp at this)]; assumption))
            | (go_split_ands; refine ⟨?_, ?_, ?_⟩ <;> (rw [hbt.cell (by first | (simp; done) | (simp; omega) | (have := ga.size; simp at this; simp; omega))]; assumption))
            | (go_split_ands; refine ⟨?_, ?_, ?_⟩ <;> (rw [gb.cell_far _ (Nat.lt_of_lt_of_le (by simp; omega) (Nat.le_trans ga.size hbt.size)) (fun h => Or.elim (na _ h.symm) (fun h' => absurd (HBL.out _ h').2 (Nat.lt_irrefl _)) (fun h' => Nat.not_lt.2 h' (by simp; omega)))]; assumption)))
          (first
          | (go_at_call 15; refine (HT2.out _).mono ?_; rintro e w' ⟨gt, ct, Lt, rfl, hst, hgt, hlt, hbt⟩)
          | (refine step_append_at _ rfl (some 46) (by rfl) (.tmp 41) (.tmp 45) 27 (by rfl) w.heap.size 5 i0 (.int .u8 0) 1 1 Try.underlying27 hi hz0 hz1 hz2 rfl (by decide) _ L.length (byteV L) (by rfl) ?_ ⟨wr.heap.size + 1, 0, none⟩ 1 1 (byteV [kn]) (by rfl) (by rfl) ?_ (byteV_one _) (by unfold maxLen; omega) (by omega) ?_ ?_; exact (HB.out.alloc _).alloc _; exact news_one (by simp [go_sem, HW8.out]); (simp; omega); intro va wa ha ga na)
          | (refine step_append_at _ rfl (some 50) (by rfl) (.tmp 46) (.tmp 49) 27 (by rfl) w.heap.size 5 i0 (.int .u8 0) 1 1 Try.underlying27 hi hz0 hz1 hz2 rfl (by decide) _ (L.length + 1) (byteV L ++ byteV [kn]) (by rfl) ?_ ⟨gt, 0, none⟩ Lt.length ct (byteV Lt) (by rfl) (by rw [byteV_len]; omega) ?_ (byteV_one _) (by have := text_len _ _ hst; unfold maxLen; omega) (by have := text_len _ _ hst; omega) ?_ ?_; exact ha.below hbt (fun g hg => (ha.lt g hg).2); exact (hlt).add; (have := hbt.size; have := ga.size; simp at this; omega); intro vb wb hb2 gb nb))
        go_wp2_with fail
        go_meet
        have hts2 := text_len _ _ hst
        refine ⟨Lt, hst, ?_, ?_, ?_, ?_, ?_⟩
        · rw [byteV_append, byteV_append, List.length_append, List.length_append]
          exact hb2
        · exact ((((HNX.out.alloc hnxs _).alloc (by simp; omega) _).drew.grown ga (by simp; omega) (fun g hg => (HBL.out g hg).1)).trans (hbt.mono (by have := ga.size; simp at this; omega))).grown gb (by have h1 := ga.size; have h2 := hbt.size; simp at h1; omega) (fun g hg => (ha.lt g hg).1)
        · exact (by assumption : wb.cell? ⟨wr.heap.size, 0, none⟩ = some (.int .i64 kn) ∧ wb.cell? ⟨wr.heap.size, 1, none⟩ = some (.string xs) ∧ wb.cell? ⟨wr.heap.size, 2, none⟩ = some (.string xv)).1
        · exact (by assumption : wb.cell? ⟨wr.heap.size, 0, none⟩ = some (.int .i64 kn) ∧ wb.cell? ⟨wr.heap.size, 1, none⟩ = some (.string xs) ∧ wb.cell? ⟨wr.heap.size, 2, none⟩ = some (.string xv)).2.2
        · exact Nat.lt_of_lt_of_le (Nat.lt_of_lt_of_le (by simp; omega) (Nat.le_trans ga.size hbt.size)) gb.size
      case rest =>
        obtain ⟨Lt, hst, hs7, hb7, d0, d2, hsz⟩ := hcut
        have hts2 := text_len _ _ hst
        have HST := Lib.hid hst
        have HS7 := Lib.hid hs7
        have HB7 := Lib.hid hb7
        have hlen : (L ++ [kn] ++ Lt).length ≤ 13 + k * 1200 + 74 := by simp only [List.length_append, List.length_cons, List.length_nil]; omega
        clear hst hs7 hb7
        have hk01 : kn = 0 ∨ kn = 1 := by omega
        clear HT2 hkn2
        rcases hk01 with rfl | rfl
        · go_wp2
          go_roundw
          case rel =>
            refine ⟨k + 1, a ++ ([0] ++ Lt), L ++ [0] ++ Lt, by omega, by go_num, HS7.out, HB7.out, Lib.hid (by rw [HE.out]; simp), Lib.hid ?_, by omega⟩
            have := encOps_snoc _ (OpR.mk 0 xs xv) a ([0] ++ Lt) HO.out ⟨Lt, [], HST.out, .inr ⟨rfl, rfl⟩, by simp⟩
            rw [List.take_succ_eq_append_getElem hkl, HX.out]
            exact this
          case measure => simp [intOf]; omega
        · have HV := Lib.hid (putText_ok xv (by have := HP.out.1.2; simp only at this; omega))
          have hvl : xv.size ≤ 1000 := HP.out.1.2
          go_wp2_with fail
          refine (HV.out _).mono ?_
          rintro e w' ⟨v, kt, rfl, hvt, ho, hbt⟩
          obtain ⟨gt, ct, rfl, hB, hle, hm, hr⟩ := ho.parts (by rw [List.length_append, putL_len]; omega)
          have HLV := Lib.hid (lies_of_reads hr)
          have HTV : Hid (Text xv (putL xv.size kt ++ bytesN xv)) := Lib.hid ⟨kt, hvt, rfl⟩
          have htv := text_len _ _ HTV.out
          have hs7w := HS7.out.below hbt (fun g hg => (HS7.out.lt g hg).2)
          have HW7 := Lib.hid hs7w
          have hb7w := HB7.out.trans (hbt.mono HB7.out.size)
          have HBW := Lib.hid hb7w
          have h7lt := HS7.out.lt
          have hnr : u7.ownBlock ≠ some gt := fun h => by have := (h7lt gt h).2; omega
          have hwsz := HBW.out.size
          generalize putL xv.size kt ++ bytesN xv = Lv at *
          have hlv : Lv.length ≤ 1100 := by omega
          clear hs7w hb7w hr ho hvt hbt htv
          go_wp2_with (at_builtin; refine wpList_append_at _ rfl (.tmp 54) (.tmp 57) 27 rfl w.heap.size 5 i0 (.int .u8 0) 1 1 Try.underlying27 hi hz0 hz1 hz2 rfl (by decide) u7 (L ++ [1] ++ Lt).length (byteV (L ++ [1] ++ Lt)) rfl HW7.out ⟨gt, 0, none⟩ Lv.length ct (byteV Lv) rfl ?e1 ?e2 ?e3 ?e4 ?e5 ?e6 ?_)
          case e1 => rw [byteV_len]; omega
          case e2 => exact HLV.out.add
          case e3 => exact byteV_one _
          case e4 => unfold maxLen; omega
          case e5 => omega
          case e6 => exact hwsz
          intro vc wd hc gc nc
          have HC := Lib.hid hc
          have hbd := HBW.out.grown gc hwsz (fun g hg => (h7lt g hg).1)
          clear hc gc nc
          go_wp2
          go_roundw
          case rel =>
            refine ⟨k + 1, a ++ ([1] ++ Lt ++ Lv), L ++ [1] ++ Lt ++ Lv, by omega, by go_num, ?_, hbd, Lib.hid (by rw [HE.out]; simp), Lib.hid ?_, by rw [List.length_append]; omega⟩
            · rw [List.length_append, byteV_append, show L ++ [1] ++ Lt = L ++ 1 :: Lt by simp, show (L ++ 1 :: Lt).length = L.length + (Lt.length + 1) by simp]; exact HC.out
            · have := encOps_snoc _ (OpR.mk 1 xs xv) a ([1] ++ Lt ++ Lv) HO.out ⟨Lt, Lv, HST.out, .inl ⟨rfl, HTV.out⟩, by simp⟩
              rw [List.take_succ_eq_append_getElem hkl, HX.out]
              exact this
          case measure => simp [intOf]; omega
    · have : k = n := by omega
      subst this
      go_wp2
      go_ret2
      exact ⟨_, L, rfl, ⟨a, by have := HO.out; rwa [List.take_of_length_le (by rw [HN.out]; exact Nat.le_refl _)] at this, by rw [HN.out]; exact HE.out⟩, hb, hnx⟩
end Go.Proofs.Ytcgbellmclhlpaa
