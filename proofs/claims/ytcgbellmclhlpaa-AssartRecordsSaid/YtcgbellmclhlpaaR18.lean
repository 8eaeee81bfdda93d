/-
  Records: contract of assarttop's batches.
-/
import Derived.Test.YtcgbellmclhlpaaR17
namespace Go.Proofs.Ytcgbellmclhlpaa
set_option linter.unusedVariables false
set_option linter.unusedSimpArgs false
open Go.RowKit Vi Sl

theorem Try.infoOps : (Try.prog.info? 31).map (fun i => (i.zero, i.size, i.bytes)) = some (some (.slice none 0 0), 1, 24) := by kernel_rfl
theorem Try.infoInt : (Try.prog.info? 3).map (fun i => (i.zero, i.size, i.bytes)) = some (some (.int .i64 0), 1, 8) := by kernel_rfl
/-- A slice of changes; rows of them. -/
def OpsV (w : World) (v : Value) (l : List OpR) : Prop := ∃ ao cap, v = .slice ao l.length cap ∧ l.length ≤ cap ∧ cap ≤ 9223372036854775807 ∧ (l = [] ∨ ∃ g o, ao = some ⟨g, o, none⟩ ∧ OpsAt w g o l)
def RowsAt (w : World) (g o : Nat) (rows : List (List OpR)) : Prop := g < w.heap.size ∧ ∀ i (h : i < rows.length), ∃ v, w.cell? ⟨g, o + i, none⟩ = some v ∧ OpsV w v rows[i]
/-- A group: its number, its changes, where they lie. -/
structure GR where
  seq : Nat
  ops : List OpR
  g : Nat
  o : Nat
  cap : Nat
def GR.val (p : GR) : Value := .slice (some ⟨p.g, p.o, none⟩) p.ops.length p.cap
def GR.ok (w : World) (p : GR) : Prop := Good p.seq p.ops ∧ p.ops.length ≤ 12 ∧ OpsAt w p.g p.o p.ops

set_option maxHeartbeats 800000 in
theorem docCheck_none (seq cap : Nat) (ao : Option Addr) (w : World) : Calls Try.prog 12 #[.int .i64 seq, .slice ao 0 cap] w fun e w' => e = .returned (.int .i64 2) ∧ w = w' := by
  go_enter Try.func12, Try.ntmps12
  go_wp2
  refine wp_loop_rounds 1 ?_
  rw [rounds_succ]
  go_wp2
  refine wp_loop_rounds 1 ?_
  rw [rounds_succ]
  go_wp2
  go_ret
  exact ⟨rfl, rfl⟩
theorem opsAt_take {w : World} {g o : Nat} {l : List OpR} (h : OpsAt w g o l) (n : Nat) : OpsAt w g o (l.take n) :=
  ⟨h.1, fun k hk => by
    have hk2 : k < l.length := by rw [List.length_take] at hk; omega
    have := h.2 k hk2
    simpa using this⟩
theorem int_one (l : List Value) (h : ∀ u ∈ l, ∃ n : Int, u = .int .i64 n) : ∀ u ∈ l, u.oneCell' = true := by
  intro u hu
  obtain ⟨n, rfl⟩ := h u hu
  rfl

set_option maxRecDepth 100000 in
set_option maxHeartbeats 3200000 in
theorem batches_ok (g o cap : Nat) (rows : List (List OpR)) (hn : rows.length ≤ cap) (hcap : cap ≤ 9223372036854775807) (w : World) (hr : RowsAt w g o rows) :
    Calls Try.prog 5 #[.slice (some ⟨g, o, none⟩) rows.length cap] w fun e w' => ∃ vo vs, ∃ G : List GR, e = .returned (.tuple #[vo, vs]) ∧ G.length ≤ 15 ∧ (∀ p ∈ G, p.ok w) ∧
      Has w' w.heap.size 1 vo G.length (G.map GR.val) ∧ Has w' w.heap.size 1 vs G.length (G.map fun p => .int .i64 p.seq) ∧ Below w.heap.size w w' := by
  obtain ⟨i0, hi, hz0, hz1, hz2⟩ := info_parts Try.infoOps
  obtain ⟨j0, ji, jz0, jz1, jz2⟩ := info_parts Try.infoInt
  obtain ⟨nr, hnr⟩ : ∃ n, rows.length = n := ⟨_, rfl⟩
  have HNR := Lib.hid hnr
  have HR := Lib.hid hr
  have hgw := hr.1
  rw [hnr] at hn ⊢
  clear hr hnr
  go_enter Try.func5, Try.ntmps5
  go_wp2
  go_loopw [4, 5, 6, 7, 8, 9, 10] (fun vo vs sq by_ i l9 k10 wr => ∃ (k : Nat) (G : List GR) (q : Nat) (B : Int), k ≤ nr ∧ k ≤ 15 ∧ i = .int .i64 k ∧ sq = .int .i64 q ∧ by_ = .int .i64 B ∧ 1 ≤ q ∧ q ≤ 1 + 12 * k ∧ G.length ≤ k ∧
      Has wr w.heap.size 1 vo G.length (G.map GR.val) ∧ Has wr w.heap.size 1 vs G.length (G.map fun p => .int .i64 p.seq) ∧ Hid (∀ b, vo.ownBlock = some b → vs.ownBlock ≠ some b) ∧ Below w.heap.size w wr ∧ Hid (∀ p ∈ G, p.ok w))
    (fun _ _ _ _ i _ _ _ => nr - (intOf i).toNat)
  case atStart => exact ⟨0, [], 1, 0, Nat.zero_le _, Nat.zero_le _, rfl, rfl, rfl, Nat.le_refl _, by omega, Nat.le_refl _, Has.nil _ _ _, Has.nil _ _ _, Lib.hid (fun b h => by cases h), Below.refl _ _, Lib.hid (fun p hp => by cases hp)⟩
  case round =>
    obtain ⟨k, G, q, B, hk, hk15, rfl, rfl, rfl, hq1, hq2, hG, hvo, hvs, HD, hnx, HOK⟩ := hrel
    by_cases hkn : k < nr
    · by_cases hk5 : k < 15
      · obtain ⟨wo, rfl⟩ : ∃ wo : World, wo = wr := ⟨_, rfl⟩
        have hkr : k < rows.length := by rw [HNR.out]; exact hkn
        obtain ⟨v, hcv, ao, c, rfl, hlc, hc2, hlv⟩ := HR.out.2 k hkr
        have hcw : wo.cell? ⟨g, o + k, none⟩ = some (.slice ao rows[k].length c) := by rw [hnx.cell (by exact hgw)]; exact hcv
        obtain ⟨l, hl⟩ : ∃ l, rows[k] = l := ⟨_, rfl⟩
        rw [hl] at hcw hlc hlv
        have HLV := Lib.hid hlv
        have HVO := Lib.hid hvo
        have HVS := Lib.hid hvs
        have HNX := Lib.hid hnx
        have hnxs := hnx.size
        have x1 : (0 : Int) ≤ k := by omega
        have x2 : (k : Int) < nr := by omega
        obtain ⟨n, hln⟩ : ∃ n, l.length = n := ⟨_, rfl⟩
        have HLN := Lib.hid hln
        rw [hln] at hcw hlc
        have x3 : (n : Int) ≤ c := by omega
        clear hvo hvs hnx hcv hlv hl hln
        by_cases hn12 : n ≤ 12
        · rcases HLV.out with hl0 | ⟨gl, ol, rfl, hops⟩
          · obtain rfl : n = 0 := by have := HLN.out; rw [hl0] at this; exact this.symm
            clear hl0
            go_wp2
            go_quiet (fail)
            go_wp2
            refine wp_loop_rounds 1 ?_
            rw [rounds_succ]
            go_wp2_with (go_at_call 12; refine (docCheck_none q c _ _).mono ?_; rintro e w' ⟨rfl, rfl⟩)
            · go_ret2
              exact ⟨_, _, G, rfl, by omega, HOK.out, HVO.out.below (below_drawn (Below.refl _ _) _) (fun b hb => (HVO.out.lt b hb).2), HVS.out.below (below_drawn (Below.refl _ _) _) (fun b hb => (HVS.out.lt b hb).2), below_drawn HNX.out _⟩
            · go_roundw
              case rel => exact ⟨k + 1, G, q, B, by omega, by omega, by go_num, rfl, rfl, by omega, by omega, by omega, HVO.out.below (below_drawn (Below.refl _ _) _) (fun b hb => (HVO.out.lt b hb).2), HVS.out.below (below_drawn (Below.refl _ _) _) (fun b hb => (HVS.out.lt b hb).2), HD, below_drawn HNX.out _, HOK⟩
              case measure => simp [intOf]; omega
          · have hm12 : (l.take n).length = n := by rw [List.length_take, HLN.out]; omega
            have HM := Lib.hid hm12
            have HOPS := Lib.hid (opsAt_take hops n)
            have hglw := hops.1
            clear hops hm12
            go_wp2
            go_quiet (fail)
            go_wp2
            have HB0 : Hid (Below w.heap.size w (wo.drewN nq)) := Lib.hid (below_drawn HNX.out _)
            have HBR : Hid (Below wo.heap.size wo (wo.drewN nq)) := Lib.hid (below_drawn (Below.refl _ _) _)
            go_loopw [7, 10] (fun by_ kk wx => ∃ (t : Nat) (B' : Int), t ≤ n ∧ kk = .int .i64 t ∧ by_ = .int .i64 B' ∧ Below wo.heap.size wo wx) (fun _ kk _ => n - (intOf kk).toNat)
            case atStart => exact ⟨0, B, Nat.zero_le _, rfl, rfl, HBR.out⟩
            case round =>
              obtain ⟨t, B', ht, rfl, rfl, hbx⟩ := hrel
              by_cases htm : t < n
              · have htl : t < (l.take n).length := by rw [HM.out]; exact htm
                have ho := HOPS.out.below (HNX.out.trans (hbx.mono hnxs)) hglw
                obtain ⟨c1, c2, c3⟩ := ho.2 t htl
                obtain ⟨xk, xs, xv, hx⟩ : ∃ a b c, (l.take n)[t] = OpR.mk a b c := ⟨_, _, _, rfl⟩
                rw [hx] at c1 c2 c3
                simp only at c1 c2 c3
                have y1 : (0 : Int) ≤ t := by omega
                have y2 : (t : Int) < n := by omega
                clear hx ho
                have HBX := Lib.hid hbx
                clear hbx
                go_wp2
                go_quiet (fail)
                go_wp2
                go_roundw
                case rel => exact ⟨t + 1, _, by omega, by go_num, rfl, below_drawn HBX.out _⟩
                case measure => simp [intOf]; omega
              · have htm2 : n = t := by omega
                subst htm2
                have hvo2 := HVO.out.below hbx (fun b hb => (HVO.out.lt b hb).2)
                have hvs2 := HVS.out.below hbx (fun b hb => (HVS.out.lt b hb).2)
                have HNX2 := Lib.hid (HNX.out.trans (hbx.mono hnxs))
                have HBX := Lib.hid hbx
                have HVO2 := Lib.hid hvo2
                have HVS2 := Lib.hid hvs2
                have hbxs := hbx.size
                have HDC := Lib.hid (docCheck_ok q gl ol c (l.take n) ⟨hq1, by omega⟩ (by rw [HM.out]; omega) wr (HOPS.out.below (HNX.out.trans (hbx.mono hnxs)) hglw))
                rw [HM.out] at HDC
                clear hvo2 hvs2 hbx
                by_cases hB : (90000 : Int) < B'
                · go_wp2
                  go_ret2
                  exact ⟨_, _, G, rfl, by omega, HOK.out, HVO2.out, HVS2.out, HNX2.out⟩
                · go_wp2_with fail
                  refine (HDC.out).mono ?_
                  rintro e wd ⟨E, rfl, hE, hbd⟩
                  have hbds := hbd.size
                  by_cases hE0 : E = 0
                  · have hgood := hE.1 hE0
                    subst hE0
                    clear hE
                    have hvo3 := HVO2.out.below hbd (fun b hb => (HVO2.out.lt b hb).2)
                    have hvs3 := HVS2.out.below hbd (fun b hb => (HVS2.out.lt b hb).2)
                    have HVO3 := Lib.hid hvo3
                    have HVS3 := Lib.hid hvs3
                    have HNX3 := Lib.hid (HNX2.out.trans (hbd.mono (by omega)))
                    have HGD := Lib.hid hgood
                    have holt := HVO.out.lt
                    have hslt := HVS.out.lt
                    clear hvo3 hvs3 hbd hgood
                    go_wp2_with (at_builtin; refine wpList_append_at _ rfl (.tmp 59) (.tmp 61) 22 rfl w.heap.size 31 i0 (.slice none 0 0) 1 24 Try.underlying22 hi hz0 hz1 hz2 rfl (by decide) u4 G.length (G.map GR.val) rfl (HVO3.out.alloc _) ⟨wd.heap.size, 0, none⟩ 1 1 [.slice (some ⟨gl, ol, none⟩) n c] rfl rfl ?aa1 ?aa2 ?aa3 ?aa4 ?aa5 ?_)
                    case aa1 =>
                      intro j u hj
                      match j, hj with
                      | 0, hj => simp at hj; subst hj; simp [Addr.add]
                    case aa2 => intro u hu; simp at hu; subst hu; rfl
                    case aa3 => unfold maxLen; omega
                    case aa4 => omega
                    case aa5 => simp; omega
                    intro va wa hva ga na
                    have hvs4 := (HVS3.out.alloc (.cells #[.slice (some ⟨gl, ol, none⟩) n c] 31)).grown ga (apart_of HD.out)
                    have hnx4 := (HNX3.out.alloc (by omega) (.cells #[.slice (some ⟨gl, ol, none⟩) n c] 31)).grown ga (by simp; omega) (fun b hb => (holt b hb).1)
                    have hd4 := disj_next HD.out (fun b hb => (HVS3.out.lt b hb).2) (fun b hb => by rcases na b hb with h | h; exact .inl h; exact .inr (by first | omega | (simp at h; omega)))
                    have hszA := ga.size
                    simp at hszA
                    have HVA := Lib.hid hva
                    have HVS4 := Lib.hid hvs4
                    have HNX4 := Lib.hid hnx4
                    have HD4 := Lib.hid hd4
                    clear hva ga na hvs4 hnx4 hd4
                    go_wp2_with (at_builtin; refine wpList_append_at _ rfl (.tmp 63) (.tmp 65) 24 rfl w.heap.size 3 j0 (.int .i64 0) 1 8 Try.underlying24 ji jz0 jz1 jz2 rfl (by decide) u5 G.length (G.map fun p => .int .i64 p.seq) rfl (HVS4.out.alloc _) ⟨wa.heap.size, 0, none⟩ 1 1 [.int .i64 q] rfl rfl ?ba1 ?ba2 ?ba3 ?ba4 ?ba5 ?_)
                    case ba1 =>
                      intro j u hj
                      match j, hj with
                      | 0, hj => simp at hj; subst hj; simp [Addr.add]
                    case ba2 => intro u hu; simp at hu; subst hu; rfl
                    case ba3 => unfold maxLen; omega
                    case ba4 => omega
                    case ba5 => simp; omega
                    intro vb wb hvb gb nb
                    have hva5 := (HVA.out.alloc (.cells #[.int .i64 q] 3)).grown gb (apart_of (fun b hb hva => HD4.out b hva hb))
                    have hnx5 := (HNX4.out.alloc (by omega) (.cells #[.int .i64 q] 3)).grown gb (by simp; omega) (fun b hb => (hslt b hb).1)
                    have hd5 := disj_next (fun b hb hva => HD4.out b hva hb) (fun b hb => (HVA.out.lt b hb).2) (fun b hb => by rcases nb b hb with h | h; exact .inl h; exact .inr (by first | omega | (simp at h; omega)))
                    have HVA5 := Lib.hid hva5
                    have HVB := Lib.hid hvb
                    have HNX5 := Lib.hid hnx5
                    have HD5 := Lib.hid hd5
                    clear hvb gb nb hva5 hnx5 hd5
                    go_wp2
                    go_roundw
                    case rel =>
                      refine ⟨k + 1, G ++ [GR.mk q (l.take n) gl ol c], q + n, B', by omega, by omega, by go_num, by go_num, rfl, by omega, by omega, by simp; omega, ?_, ?_, Lib.hid (fun b hb hb2 => HD5.out b hb2 hb), HNX5.out, Lib.hid (fun p hp => ?_)⟩
                      · have := HVA5.out
                        rw [List.map_append, List.length_append]
                        simp only [List.map_cons, List.map_nil, GR.val, HM.out]
                        exact this
                      · have := HVB.out
                        rw [List.map_append, List.length_append]
                        exact this
                      · rcases List.mem_append.1 hp with h | h
                        · exact HOK.out p h
                        · simp only [List.mem_singleton] at h
                          subst h
                          exact ⟨HGD.out, by simp only [HM.out]; omega, HOPS.out⟩
                    case measure => simp [intOf]; omega
                  · have he0 : (E == 0) = false := by simpa using hE0
                    clear hE hE0
                    go_wp2
                    go_roundw
                    case rel => exact ⟨k + 1, G, q, B', by omega, by omega, by go_num, rfl, rfl, by omega, by omega, by omega, HVO2.out.below hbd (fun b hb => (HVO2.out.lt b hb).2), HVS2.out.below hbd (fun b hb => (HVS2.out.lt b hb).2), HD, HNX2.out.trans (hbd.mono (by omega)), HOK⟩
                    case measure => simp [intOf]; omega
        · rcases HLV.out with hl0 | ⟨gl, ol, rfl, hops⟩
          · have := HLN.out; rw [hl0] at this; simp at this; omega
          · have hm12 : (l.take 12).length = 12 := by rw [List.length_take, HLN.out]; omega
            have HM := Lib.hid hm12
            have HOPS := Lib.hid (opsAt_take hops 12)
            have hglw := hops.1
            clear hops hm12
            go_wp2
            go_quiet (fail)
            go_wp2
            have HB0 : Hid (Below w.heap.size w (wo.drewN nq)) := Lib.hid (below_drawn HNX.out _)
            have HBR : Hid (Below wo.heap.size wo (wo.drewN nq)) := Lib.hid (below_drawn (Below.refl _ _) _)
            go_loopw [7, 10] (fun by_ kk wx => ∃ (t : Nat) (B' : Int), t ≤ 12 ∧ kk = .int .i64 t ∧ by_ = .int .i64 B' ∧ Below wo.heap.size wo wx) (fun _ kk _ => 12 - (intOf kk).toNat)
            case atStart => exact ⟨0, B, Nat.zero_le _, rfl, rfl, HBR.out⟩
            case round =>
              obtain ⟨t, B', ht, rfl, rfl, hbx⟩ := hrel
              by_cases htm : t < 12
              · have htl : t < (l.take 12).length := by rw [HM.out]; exact htm
                have ho := HOPS.out.below (HNX.out.trans (hbx.mono hnxs)) hglw
                obtain ⟨c1, c2, c3⟩ := ho.2 t htl
                obtain ⟨xk, xs, xv, hx⟩ : ∃ a b c, (l.take 12)[t] = OpR.mk a b c := ⟨_, _, _, rfl⟩
                rw [hx] at c1 c2 c3
                simp only at c1 c2 c3
                have y1 : (0 : Int) ≤ t := by omega
                have y2 : (t : Int) < 12 := by omega
                clear hx ho
                have HBX := Lib.hid hbx
                clear hbx
                go_wp2
                go_quiet (fail)
                go_wp2
                go_roundw
                case rel => exact ⟨t + 1, _, by omega, by go_num, rfl, below_drawn HBX.out _⟩
                case measure => simp [intOf]; omega
              · have htm2 : 12 = t := by omega
                subst htm2
                have hvo2 := HVO.out.below hbx (fun b hb => (HVO.out.lt b hb).2)
                have hvs2 := HVS.out.below hbx (fun b hb => (HVS.out.lt b hb).2)
                have HNX2 := Lib.hid (HNX.out.trans (hbx.mono hnxs))
                have HBX := Lib.hid hbx
                have HVO2 := Lib.hid hvo2
                have HVS2 := Lib.hid hvs2
                have hbxs := hbx.size
                have HDC := Lib.hid (docCheck_ok q gl ol c (l.take 12) ⟨hq1, by omega⟩ (by rw [HM.out]; omega) wr (HOPS.out.below (HNX.out.trans (hbx.mono hnxs)) hglw))
                rw [HM.out] at HDC
                clear hvo2 hvs2 hbx
                by_cases hB : (90000 : Int) < B'
                · go_wp2
                  go_ret2
                  exact ⟨_, _, G, rfl, by omega, HOK.out, HVO2.out, HVS2.out, HNX2.out⟩
                · go_wp2_with fail
                  refine (HDC.out).mono ?_
                  rintro e wd ⟨E, rfl, hE, hbd⟩
                  have hbds := hbd.size
                  by_cases hE0 : E = 0
                  · have hgood := hE.1 hE0
                    subst hE0
                    clear hE
                    have hvo3 := HVO2.out.below hbd (fun b hb => (HVO2.out.lt b hb).2)
                    have hvs3 := HVS2.out.below hbd (fun b hb => (HVS2.out.lt b hb).2)
                    have HVO3 := Lib.hid hvo3
                    have HVS3 := Lib.hid hvs3
                    have HNX3 := Lib.hid (HNX2.out.trans (hbd.mono (by omega)))
                    have HGD := Lib.hid hgood
                    have holt := HVO.out.lt
                    have hslt := HVS.out.lt
                    clear hvo3 hvs3 hbd hgood
                    go_wp2_with (at_builtin; refine wpList_append_at _ rfl (.tmp 59) (.tmp 61) 22 rfl w.heap.size 31 i0 (.slice none 0 0) 1 24 Try.underlying22 hi hz0 hz1 hz2 rfl (by decide) u4 G.length (G.map GR.val) rfl (HVO3.out.alloc _) ⟨wd.heap.size, 0, none⟩ 1 1 [.slice (some ⟨gl, ol, none⟩) 12 c] rfl rfl ?ab1 ?ab2 ?ab3 ?ab4 ?ab5 ?_)
                    case ab1 =>
                      intro j u hj
                      match j, hj with
                      | 0, hj => simp at hj; subst hj; simp [Addr.add]
                    case ab2 => intro u hu; simp at hu; subst hu; rfl
                    case ab3 => unfold maxLen; omega
                    case ab4 => omega
                    case ab5 => simp; omega
                    intro va wa hva ga na
                    have hvs4 := (HVS3.out.alloc (.cells #[.slice (some ⟨gl, ol, none⟩) 12 c] 31)).grown ga (apart_of HD.out)
                    have hnx4 := (HNX3.out.alloc (by omega) (.cells #[.slice (some ⟨gl, ol, none⟩) 12 c] 31)).grown ga (by simp; omega) (fun b hb => (holt b hb).1)
                    have hd4 := disj_next HD.out (fun b hb => (HVS3.out.lt b hb).2) (fun b hb => by rcases na b hb with h | h; exact .inl h; exact .inr (by first | omega | (simp at h; omega)))
                    have hszA := ga.size
                    simp at hszA
                    have HVA := Lib.hid hva
                    have HVS4 := Lib.hid hvs4
                    have HNX4 := Lib.hid hnx4
                    have HD4 := Lib.hid hd4
                    clear hva ga na hvs4 hnx4 hd4
                    go_wp2_with (at_builtin; refine wpList_append_at _ rfl (.tmp 63) (.tmp 65) 24 rfl w.heap.size 3 j0 (.int .i64 0) 1 8 Try.underlying24 ji jz0 jz1 jz2 rfl (by decide) u5 G.length (G.map fun p => .int .i64 p.seq) rfl (HVS4.out.alloc _) ⟨wa.heap.size, 0, none⟩ 1 1 [.int .i64 q] rfl rfl ?bb1 ?bb2 ?bb3 ?bb4 ?bb5 ?_)
                    case bb1 =>
                      intro j u hj
                      match j, hj with
                      | 0, hj => simp at hj; subst hj; simp [Addr.add]
                    case bb2 => intro u hu; simp at hu; subst hu; rfl
                    case bb3 => unfold maxLen; omega
                    case bb4 => omega
                    case bb5 => simp; omega
                    intro vb wb hvb gb nb
                    have hva5 := (HVA.out.alloc (.cells #[.int .i64 q] 3)).grown gb (apart_of (fun b hb hva => HD4.out b hva hb))
                    have hnx5 := (HNX4.out.alloc (by omega) (.cells #[.int .i64 q] 3)).grown gb (by simp; omega) (fun b hb => (hslt b hb).1)
                    have hd5 := disj_next (fun b hb hva => HD4.out b hva hb) (fun b hb => (HVA.out.lt b hb).2) (fun b hb => by rcases nb b hb with h | h; exact .inl h; exact .inr (by first | omega | (simp at h; omega)))
                    have HVA5 := Lib.hid hva5
                    have HVB := Lib.hid hvb
                    have HNX5 := Lib.hid hnx5
                    have HD5 := Lib.hid hd5
                    clear hvb gb nb hva5 hnx5 hd5
                    go_wp2
                    go_roundw
                    case rel =>
                      refine ⟨k + 1, G ++ [GR.mk q (l.take 12) gl ol c], q + 12, B', by omega, by omega, by go_num, by go_num, rfl, by omega, by omega, by simp; omega, ?_, ?_, Lib.hid (fun b hb hb2 => HD5.out b hb2 hb), HNX5.out, Lib.hid (fun p hp => ?_)⟩
                      · have := HVA5.out
                        rw [List.map_append, List.length_append]
                        simp only [List.map_cons, List.map_nil, GR.val, HM.out]
                        exact this
                      · have := HVB.out
                        rw [List.map_append, List.length_append]
                        exact this
                      · rcases List.mem_append.1 hp with h | h
                        · exact HOK.out p h
                        · simp only [List.mem_singleton] at h
                          subst h
                          exact ⟨HGD.out, by simp only [HM.out]; omega, HOPS.out⟩
                    case measure => simp [intOf]; omega
                  · have he0 : (E == 0) = false := by simpa using hE0
                    clear hE hE0
                    go_wp2
                    go_roundw
                    case rel => exact ⟨k + 1, G, q, B', by omega, by omega, by go_num, rfl, rfl, by omega, by omega, by omega, HVO2.out.below hbd (fun b hb => (HVO2.out.lt b hb).2), HVS2.out.below hbd (fun b hb => (HVS2.out.lt b hb).2), HD, HNX2.out.trans (hbd.mono (by omega)), HOK⟩
                    case measure => simp [intOf]; omega
      · have : k = 15 := by omega
        subst this
        go_wp2
        go_ret2
        exact ⟨_, _, G, rfl, by omega, HOK.out, hvo, hvs, hnx⟩
    · go_wp2
      go_ret2
      exact ⟨_, _, G, rfl, by omega, HOK.out, hvo, hvs, hnx⟩
end Go.Proofs.Ytcgbellmclhlpaa
