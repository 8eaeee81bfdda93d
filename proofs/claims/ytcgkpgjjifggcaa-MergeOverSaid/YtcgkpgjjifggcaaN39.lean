/-
  Merge: the walk of Over.
-/
import Derived.Test.YtcgkpgjjifggcaaN38
namespace Go.Proofs.Ytcgkpgjjifggcaa
set_option linter.unusedVariables false
set_option linter.unusedSimpArgs false
open Go.RowKit Sl

theorem ins_call (v : Value) (n i base : Nat) (E : List PairR) (key val : ByteArray) (w : World) (h : Own2 w base v E) (hl : E.length = n) (hi : i ≤ n) (hbig : n ≤ 1000000) (hbase : base ≤ w.heap.size) :
    Calls Try.prog 38 #[v, .int .i64 i, .slice (some ⟨w.heap.size, 0, none⟩) 1 1] (w.alloc (.cells #[.string key, .string val] 49)) fun e w' =>
      ∃ a c, e = .returned (.slice a (n + 1) c) ∧ Own2 w' base (.slice a (n + 1) c) (E.take i ++ ((⟨key, val⟩ : PairR) :: E.drop i)) ∧ Mod (fun k => base ≤ k) w w' := by
  have hM : Mod (fun _ => False) w (w.alloc (.cells #[.string key, .string val] 49)) := (Mod.refl _ w).new _
  refine (insert_ok v n i base w.heap.size E ⟨key, val⟩ _ (ownsRow_mod h hM (fun _ _ h => h)) hl hi hbig (pairBox_new w key val) (by simp; omega) (fun e => by have := (h.lt _ e).2; omega)).mono ?_
  rintro e w' ⟨a, c, rfl, h1, h2⟩
  rw [hl] at h1 ⊢
  exact ⟨a, c, rfl, h1, (hM.mono (fun _ h => h.elim)).trans (h2.mono (fun k hk => (h.lt k hk).1))⟩

set_option maxRecDepth 100000 in
set_option maxHeartbeats 12800000 in
theorem over_ok (v : Value) (l : List PairR) (S : Nat → Prop) (vo : Value) (ops : List OpR) (S' : Nat → Prop) (w : World) (h : SlV PairR.cells w S v l) (ho : SlV OpR.cells w S' vo ops) (hs : Pl.Srt PairR.key bl l) (hbig : l.length + ops.length ≤ 1000000) (D : List PairR) (mD : Nat) (hD : overP l ops = D) (hmD : D.length = mD) :
    Calls Try.prog 24 #[v, vo] w (OverPost D mD w) := by
  obtain ⟨ao, cap, hv⟩ := ho.shape
  obtain ⟨n, hn⟩ : ∃ n, ops.length = n := ⟨_, rfl⟩
  obtain ⟨n0, hn0⟩ : ∃ n0, l.length = n0 := ⟨_, rfl⟩
  rw [hn] at hv
  rw [hn, hn0] at hbig
  subst hv
  obtain ⟨-, h2, h3⟩ := SlV.len ho
  unfold maxLen at h3
  have HV := Lib.hid ho
  have HN := Lib.hid hn
  have HN0 := Lib.hid hn0
  have HD := Lib.hid hD
  have HMD := Lib.hid hmD
  have HSL := Lib.hid hs
  have HC := Lib.hid (clone2_ok v l S w h (by omega))
  clear ho h hn hn0 hD hmD hs
  go_enter Try.func24, Try.ntmps24
  go_wp2_with fail
  refine (HC.out).mono ?_
  rintro e wc ⟨vc, rfl, hoc, hbc⟩
  obtain ⟨ac, cc, rfl, -⟩ := own2_shape hoc
  rw [HN0.out] at hoc ⊢
  have HOC := Lib.hid hoc
  have HBC := Lib.hid hbc
  clear hoc hbc HC
  go_wp2_with fail
  go_loopg [5, 14] n (fun g s5 s14 wr => ∃ (k : Nat) (E : List PairR) (a m c : _), g = n - k ∧ s14 = .int .i64 (k : Nat) ∧ k ≤ n ∧ s5 = .slice a m c ∧ m ≤ n0 + k ∧ Hid (overP l (ops.take k) = E) ∧ Hid (E.length = m) ∧ Hid (Own2 wr w.heap.size (.slice a m c) E) ∧ Hid (Below w.heap.size w wr))
  case atStart => exact ⟨0, l, ac, n0, cc, by omega, rfl, Nat.zero_le _, rfl, by omega, Lib.hid rfl, HN0, HOC, HBC⟩
  case round =>
    obtain ⟨k, E, a3, m, c3, rfl, rfl, hk, rfl, hmk, HE, HEL, HH, HW⟩ := hrel
    by_cases hlt : k < n
    · have hlt2 : (k : Int) < n := by omega
      obtain ⟨bb, oo, rfl, hS, hbl, hcs⟩ := OV.of (HV.out.below HW.out) (by omega)
      obtain ⟨o, hc⟩ : ∃ o, ops[k]? = some o := ⟨_, List.getElem?_eq_getElem (by have := HN.out; omega)⟩
      obtain ⟨x1, x2, x3⟩ := hcs k o hc
      have HSK := Lib.hid (overP_snoc l ops k o hc)
      have HSE : Hid (Pl.Srt PairR.key bl E) := Lib.hid (HE.out ▸ overP_srt l HSL.out _)
      have hbase := HW.out.size
      have HSR : Hid (∀ W, Below wr.heap.size wr W → Calls Try.prog 34 #[.slice a3 m c3, .string o.key, .func (Fn.func 35) #[] #[]] W (SearchPost E o.key m W)) := Lib.hid (fun W hW => search_ok _ E _ o.key m W (own2_mod HH.out (Mod.of_below hW (Nat.le_refl _) : Mod (fun _ => False) wr W) (fun _ h => h.elim)).sl HEL.out (by omega) HSE.out)
      clear hcs hc hS
      go_wp2_with fail
      refine (HSR.out _ ((Below.refl _ _).alloc (Nat.le_refl _) _)).mono ?_
      rintro e w1 ⟨i, b, rfl, hi, h1, h2, h3, hb1⟩
      have hsz1 : wr.heap.size + 1 ≤ w1.heap.size := by have := hb1.size; simpa using this
      obtain ⟨hov, hib⟩ := over_found E o HSE.out m i b HEL.out hi h1 h2 h3
      have HOV : Hid (overP l (ops.take (k + 1)) = E.take i ++ (putP o ++ E.drop (if b then i + 1 else i))) := Lib.hid (by rw [HSK.out, HE.out, hov])
      have hbw : Below wr.heap.size wr w1 := ((Below.refl _ _).alloc (Nat.le_refl _) _).trans (hb1.mono (by simp))
      have z0 : w1.cell? ⟨wr.heap.size, 0, none⟩ = some (.int .i64 o.kind) := by rw [hb1.cell (by simp)]; simp [go_sem]
      have z1 : w1.cell? ⟨wr.heap.size, 1, none⟩ = some (.string o.key) := by rw [hb1.cell (by simp)]; simp [go_sem]
      have z2 : w1.cell? ⟨wr.heap.size, 2, none⟩ = some (.string o.val) := by rw [hb1.cell (by simp)]; simp [go_sem]
      have HO1 : Hid (Own2 w1 w.heap.size (.slice a3 m c3) E) := Lib.hid (own2_mod HH.out (Mod.of_below hbw (Nat.le_refl _) : Mod (fun _ => False) wr w1) (fun _ h => h.elim))
      have HW1 : Hid (Below w.heap.size w w1) := Lib.hid (HW.out.trans (hbw.mono hbase))
      have hb9 : w.heap.size ≤ w1.heap.size := by omega
      have hw9 : IntKind.i64.wrap ((i : Int) + 1) = (i : Int) + 1 := IntWalk.i64_in _ (by omega)
      clear hov h1 h2 h3 hb1 hbw HSR HSK HSE x1 x2 x3
      cases b with
      | true =>
        have him := hib rfl
        obtain ⟨q, rfl⟩ : ∃ q, m = q + 1 := ⟨m - 1, by omega⟩
        obtain ⟨g, cap', cur, e1, hBg, hgl, -⟩ := own_parts HO1.out (by rw [HEL.out]; omega)
        rw [HEL.out] at e1
        simp only [Value.slice.injEq] at e1
        obtain ⟨rfl, -, rfl⟩ := e1
        have hgl2 : g < wr.heap.size := (HH.out.lt g rfl).2
        have HDL := Lib.hid (delete_ok g c3 q i w.heap.size E w1 HO1.out HEL.out (by omega) (by omega))
        have HDN : Hid ((E.take i ++ E.drop (i + 1)).length = q) := Lib.hid (by have := HEL.out; rw [List.length_append, List.length_take, List.length_drop, Nat.min_eq_left (by omega)]; omega)
        go_wp2_with fail
        refine (HDL.out).mono ?_
        rintro e w2 ⟨rfl, ho2, hm2⟩
        have y0 : w2.cell? ⟨wr.heap.size, 0, none⟩ = some (.int .i64 o.kind) := by rw [hm2.cell _ _ (by omega) (by omega)]; exact z0
        have y1 : w2.cell? ⟨wr.heap.size, 1, none⟩ = some (.string o.key) := by rw [hm2.cell _ _ (by omega) (by omega)]; exact z1
        have y2 : w2.cell? ⟨wr.heap.size, 2, none⟩ = some (.string o.val) := by rw [hm2.cell _ _ (by omega) (by omega)]; exact z2
        have HO2 := Lib.hid ho2
        have HW2 : Hid (Below w.heap.size w w2) := Lib.hid (HW1.out.trans (hm2.below (fun k hk => by omega) hb9))
        have hb8 : w.heap.size ≤ w2.heap.size := Nat.le_trans hb9 hm2.size
        clear ho2 hm2 z0 z1 z2 HO1 HH HDL hgl hgl2 hBg
        by_cases hput : o.kind = 1
        · have hp1 : (o.kind == 1) = true := by simpa using hput
          have HIN := Lib.hid (ins_call _ q i w.heap.size _ o.key o.val w2 HO2.out HDN.out (by omega) (by omega) hb8)
          have HT : Hid (overP l (ops.take (k + 1)) = (E.take i ++ E.drop (i + 1)).take i ++ ((⟨o.key, o.val⟩ : PairR) :: (E.take i ++ E.drop (i + 1)).drop i)) := Lib.hid (by rw [HOV.out, put_in E o i hput _ rfl (by rw [HEL.out]; omega)]; simp)
          clear hput
          go_wp2_with fail
          refine (HIN.out).mono ?_
          rintro e w3 ⟨a5, c5, rfl, ho3, hm3⟩
          have HO3 := Lib.hid ho3
          have HW3 : Hid (Below w.heap.size w w3) := Lib.hid (HW2.out.trans (hm3.below (fun k hk => hk) hb8))
          clear ho3 hm3 HIN
          go_wp2
          go_roundg (n - (k + 1))
          case measure => omega
          case rel => exact ⟨k + 1, _, a5, q + 1, c5, rfl, by go_num, by omega, rfl, by omega, HT, Lib.hid (by have := HDN.out; rw [List.length_append, List.length_cons, List.length_take, List.length_drop, Nat.min_eq_left (by omega)]; omega), HO3, HW3⟩
        · have hp1 : (o.kind == 1) = false := by simpa using hput
          have HT : Hid (overP l (ops.take (k + 1)) = E.take i ++ E.drop (i + 1)) := Lib.hid (by rw [HOV.out, putP, if_neg hput]; simp)
          clear hput
          go_wp2
          go_roundg (n - (k + 1))
          case measure => omega
          case rel => exact ⟨k + 1, _, _, q, _, rfl, by go_num, by omega, rfl, by omega, HT, HDN, HO2, HW2⟩
      | false =>
        by_cases hput : o.kind = 1
        · have hp1 : (o.kind == 1) = true := by simpa using hput
          have HIN := Lib.hid (ins_call _ m i w.heap.size _ o.key o.val w1 HO1.out HEL.out (by omega) (by omega) hb9)
          have HT : Hid (overP l (ops.take (k + 1)) = E.take i ++ ((⟨o.key, o.val⟩ : PairR) :: E.drop i)) := Lib.hid (by rw [HOV.out, put_in0 E o i hput]; simp)
          clear hput
          go_wp2_with fail
          refine (HIN.out).mono ?_
          rintro e w3 ⟨a5, c5, rfl, ho3, hm3⟩
          have HO3 := Lib.hid ho3
          have HW3 : Hid (Below w.heap.size w w3) := Lib.hid (HW1.out.trans (hm3.below (fun k hk => hk) hb9))
          clear ho3 hm3 HIN
          go_wp2
          go_roundg (n - (k + 1))
          case measure => omega
          case rel => exact ⟨k + 1, _, a5, m + 1, c5, rfl, by go_num, by omega, rfl, by omega, HT, Lib.hid (by have := HEL.out; rw [List.length_append, List.length_cons, List.length_take, List.length_drop, Nat.min_eq_left (by omega)]; omega), HO3, HW3⟩
        · have hp1 : (o.kind == 1) = false := by simpa using hput
          have HT : Hid (overP l (ops.take (k + 1)) = E) := Lib.hid (by rw [HOV.out, putP, if_neg hput]; simp)
          clear hput
          go_wp2
          go_roundg (n - (k + 1))
          case measure => omega
          case rel => exact ⟨k + 1, E, a3, m, c3, rfl, by go_num, by omega, rfl, by omega, HT, HEL, HO1, HW1⟩
    · have hge : decide ((k : Int) < n) = false := by simp; omega
      go_wp2
      go_ret
      have e1 : E = D := by rw [← HE.out, List.take_of_length_le (by rw [HN.out]; omega), HD.out]
      have e2 : m = mD := by rw [← HEL.out, e1, HMD.out]
      subst e1 e2
      exact ⟨_, _, rfl, HH.out, HW.out⟩
end Go.Proofs.Ytcgkpgjjifggcaa
