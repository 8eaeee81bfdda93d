/-
  Merge: contracts of cmp.Compare at strings, of Over's own comparison; the place in a list of pairs by its key.
-/
import Derived.Test.YtcgkpgjjifggcaaN32
namespace Go.Proofs.Ytcgkpgjjifggcaa
set_option linter.unusedVariables false
set_option linter.unusedSimpArgs false
open Go.RowKit Sl

set_option maxHeartbeats 800000 in
theorem isNaN_ok (a : ByteArray) (w : World) : Calls Try.prog 43 #[.string a] w fun e w' => e = .returned (.bool false) ∧ w = w' := by
  have e1 : (a.toList != a.toList) = false := by simp
  go_enter Try.func43, Try.ntmps43
  go_wp2
  go_ret
  exact ⟨rfl, rfl⟩
set_option maxHeartbeats 1600000 in
theorem cmpS_ok (a b : ByteArray) (n : Int) (hn : cmpN a b = n) (w : World) : Calls Try.prog 36 #[.string a, .string b] w fun e w' => e = .returned (.int .i64 n) ∧ w = w' := by
  have h0 := cmpN_less a b
  rw [hn] at h0
  rcases bl_tri a b with h | h | h
  · rw [if_pos h] at h0
    subst h0
    have h1 : Op.bytesLess a.toList b.toList = true := h
    clear hn h
    go_enter Try.func36, Try.ntmps36
    go_wp2_with (go_at_call 43; refine (isNaN_ok _ _).mono ?_; rintro e w' ⟨rfl, rfl⟩)
    go_ret
    exact ⟨rfl, rfl⟩
  · subst h
    rw [bl_irr, if_neg (by simp), if_pos rfl] at h0
    subst h0
    have h1 : Op.bytesLess a.toList a.toList = false := bl_irr a
    clear hn
    go_enter Try.func36, Try.ntmps36
    go_wp2_with (go_at_call 43; refine (isNaN_ok _ _).mono ?_; rintro e w' ⟨rfl, rfl⟩)
    go_ret
    exact ⟨rfl, rfl⟩
  · have h2 := bl_ord.asym _ _ h
    have h3 : a ≠ b := fun e => by subst e; rw [bl_irr] at h; cases h
    rw [h2, if_neg (by simp), if_neg h3] at h0
    subst h0
    have h4 : Op.bytesLess b.toList a.toList = true := h
    have h5 : Op.bytesLess a.toList b.toList = false := h2
    have h6 : (a.toList == b.toList) = false := beq_eq_false_iff_ne.2 (fun e => h3 (ofList_inj _ _ e))
    clear hn h h2 h3
    go_enter Try.func36, Try.ntmps36
    go_wp2_with (go_at_call 43; refine (isNaN_ok _ _).mono ?_; rintro e w' ⟨rfl, rfl⟩)
    go_ret
    exact ⟨rfl, rfl⟩
set_option maxHeartbeats 1600000 in
theorem cmpP_ok (p : PairR) (b : ByteArray) (n : Int) (hn : cmpN p.key b = n) (w : World) : Calls Try.prog 35 #[.agg #[.string p.key, .string p.val], .string b] w fun e w' => e = .returned (.int .i64 n) ∧ Below w.heap.size w w' := by
  have HC := Lib.hid (cmpS_ok p.key b n hn)
  clear hn
  go_enter Try.func35, Try.ntmps35
  go_wp2_with (go_at_call 36; refine (HC.out _).mono ?_; rintro e w' ⟨rfl, rfl⟩)
  go_ret
  exact ⟨rfl, (Below.refl _ _).alloc (Nat.le_refl _) _⟩
def SearchPost (l : List PairR) (key : ByteArray) (n : Nat) (w : World) (e : Ending) (w' : World) : Prop :=
  ∃ (i : Nat) (b : Bool), e = .returned (.tuple #[.int .i64 i, .bool b]) ∧ i ≤ n ∧ (∀ t x, t < i → l[t]? = some x → bl x.key key = true) ∧ (b = true → ∃ x, l[i]? = some x ∧ x.key = key) ∧ (b = false → ∀ x, l[i]? = some x → bl key x.key = true) ∧ Below w.heap.size w w'
theorem cmp_lt (a b : ByteArray) (h : bl a b = true) : cmpN a b = -1 := by rw [cmpN_less, if_pos h]
theorem cmp_ge (a b : ByteArray) (h : bl a b = false) : cmpN a b = if a = b then 0 else 1 := by rw [cmpN_less, h]; simp

set_option maxRecDepth 100000 in
set_option maxHeartbeats 6400000 in
theorem search_ok (v : Value) (l : List PairR) (S : Nat → Prop) (key : ByteArray) (n : Nat) (w : World) (h : SlV PairR.cells w S v l) (hn : l.length = n) (hbig : n ≤ 1000000) (hs : Pl.Srt PairR.key bl l) :
    Calls Try.prog 34 #[v, .string key, .func (Fn.func 35) #[] #[]] w (SearchPost l key n w) := by
  obtain ⟨ao, cap, hv⟩ := h.shape
  rw [hn] at hv
  subst hv
  obtain ⟨-, h2, h3⟩ := SlV.len h
  unfold maxLen at h3
  have HV := Lib.hid h
  have HN := Lib.hid hn
  have HS := Lib.hid hs
  clear h hn hs
  go_enter Try.func34, Try.ntmps34
  go_wp2_with fail
  go_loopg [9, 10] n (fun g s9 s10 wr => ∃ i j : Nat, g = j - i ∧ s9 = .int .i64 i ∧ s10 = .int .i64 j ∧ i ≤ j ∧ j ≤ n ∧ Hid (∀ t x, t < i → l[t]? = some x → bl x.key key = true) ∧ Hid (∀ t x, j ≤ t → l[t]? = some x → bl x.key key = false) ∧ Hid (Below w.heap.size w wr))
  case atStart => exact ⟨0, n, by omega, rfl, rfl, Nat.zero_le _, Nat.le_refl _, Lib.hid (fun t _ h _ => absurd h (Nat.not_lt_zero _)), Lib.hid (fun t x h hx => by
    have := (List.getElem?_eq_some_iff.1 hx).1
    rw [HN.out] at this; omega), Lib.hid (Below.refl _ _)⟩
  case round =>
    obtain ⟨i, j, rfl, rfl, rfl, hij, hjn, HL, HR, HW⟩ := hrel
    by_cases hlt : i < j
    · have hltI : (i : Int) < j := by omega
      obtain ⟨hh, hhh⟩ : ∃ hh, (i + j) / 2 = hh := ⟨_, rfl⟩
      have hm1 : i ≤ hh := by omega
      have hm2 : hh < j := by omega
      have hm2I : (hh : Int) < n := by omega
      have hdiv : ((i : Int) + (j : Int)) / 2 = hh := by omega
      clear hhh
      obtain ⟨bb, o, rfl, -, hbl, hps⟩ := PV.of (HV.out.below HW.out) (by omega)
      obtain ⟨x, hx⟩ := get_of (l := l) (k := hh) (by have := HN.out; omega)
      obtain ⟨x1, x2⟩ := hps hh x hx
      have HX := Lib.hid hx
      obtain ⟨r, hr⟩ : ∃ r, bl x.key key = r := ⟨_, rfl⟩
      have HRR := Lib.hid hr
      clear hps hx
      cases r with
      | true =>
        have HC := Lib.hid (cmpP_ok x key (-1) (cmp_lt _ _ hr))
        clear hr
        go_wp2_with fail
        refine (HC.out _).mono ?_
        rintro e w2 ⟨rfl, hb2⟩
        have HB2 := Lib.hid hb2
        clear hb2 HC
        go_wp2
        go_roundg (j - (hh + 1))
        case measure => omega
        case rel =>
          refine ⟨hh + 1, j, rfl, by go_num, rfl, by omega, hjn, Lib.hid (fun t y ht hy => ?_), HR, Lib.hid (HW.out.trans (HB2.out.mono HW.out.size))⟩
          by_cases h1 : t = hh
          · subst h1
            have e1 := HX.out.symm.trans hy
            cases e1
            exact HRR.out
          · obtain ⟨ht1, ht2⟩ := List.getElem?_eq_some_iff.1 HX.out
            obtain ⟨hy1, hy2⟩ := List.getElem?_eq_some_iff.1 hy
            have hty : bl y.key x.key = true := by
              rw [← ht2, ← hy2]
              exact List.pairwise_iff_getElem.1 HS.out t hh hy1 ht1 (by omega)
            exact bl_ord.trans _ _ _ hty HRR.out
      | false =>
        obtain ⟨cn, hcn, hcn0⟩ : ∃ cn : Int, cmpN x.key key = cn ∧ decide (cn < 0) = false := by
          refine ⟨_, cmp_ge _ _ hr, ?_⟩
          split <;> decide
        have HC := Lib.hid (cmpP_ok x key cn hcn)
        clear hr hcn
        go_wp2_with fail
        refine (HC.out _).mono ?_
        rintro e w2 ⟨rfl, hb2⟩
        have HB2 := Lib.hid hb2
        clear hb2 HC
        go_wp2
        go_roundg (hh - i)
        case measure => omega
        case rel =>
          refine ⟨i, hh, rfl, rfl, rfl, hm1, by omega, HL, Lib.hid (fun t y ht hy => ?_), Lib.hid (HW.out.trans (HB2.out.mono HW.out.size))⟩
          by_cases h1 : t = hh
          · subst h1
            have e1 := HX.out.symm.trans hy
            cases e1
            exact HRR.out
          · obtain ⟨ht1, ht2⟩ := List.getElem?_eq_some_iff.1 HX.out
            obtain ⟨hy1, hy2⟩ := List.getElem?_eq_some_iff.1 hy
            have hty : bl x.key y.key = true := by
              rw [← ht2, ← hy2]
              exact List.pairwise_iff_getElem.1 HS.out hh t ht1 hy1 (by omega)
            cases h9 : bl y.key key with
            | false => rfl
            | true => have := bl_ord.trans _ _ _ hty h9; rw [HRR.out] at this; cases this
    · have hge : decide ((i : Int) < j) = false := by simp; omega
      obtain rfl : i = j := by omega
      by_cases hin : i < n
      · have hinI : (i : Int) < n := by omega
        obtain ⟨bb, o, rfl, -, hbl, hps⟩ := PV.of (HV.out.below HW.out) (by omega)
        obtain ⟨x, hx⟩ := get_of (l := l) (k := i) (by have := HN.out; omega)
        obtain ⟨x1, x2⟩ := hps i x hx
        have HX := Lib.hid hx
        have hr := HR.out i x (Nat.le_refl _) hx
        clear hps hx
        by_cases hk : x.key = key
        · have HK := Lib.hid hk
          have HC := Lib.hid (cmpP_ok x key 0 (by rw [cmp_ge _ _ hr, if_pos hk]))
          clear hr hk
          go_wp2_with fail
          refine (HC.out _).mono ?_
          rintro e w2 ⟨rfl, hb2⟩
          have HB2 := Lib.hid hb2
          clear hb2 HC
          go_wp2
          go_ret2
          exact ⟨i, true, rfl, hjn, HL.out, fun _ => ⟨x, HX.out, HK.out⟩, nofun, HW.out.trans (HB2.out.mono HW.out.size)⟩
        · have HK : Hid (bl key x.key = true) := Lib.hid (by
            rcases bl_tri key x.key with t | t | t
            · exact t
            · exact absurd t.symm hk
            · rw [hr] at t; cases t)
          have HC := Lib.hid (cmpP_ok x key 1 (by rw [cmp_ge _ _ hr, if_neg hk]))
          clear hr hk
          go_wp2_with fail
          refine (HC.out _).mono ?_
          rintro e w2 ⟨rfl, hb2⟩
          have HB2 := Lib.hid hb2
          clear hb2 HC
          go_wp2
          go_ret2
          refine ⟨i, false, rfl, hjn, HL.out, nofun, fun _ y hy => ?_, HW.out.trans (HB2.out.mono HW.out.size)⟩
          have e1 := HX.out.symm.trans hy
          cases e1
          exact HK.out
      · have hinI : decide ((i : Int) < n) = false := by simp; omega
        go_wp2
        go_ret2
        refine ⟨i, false, rfl, hjn, HL.out, nofun, fun _ y hy => ?_, HW.out⟩
        have := (List.getElem?_eq_some_iff.1 hy).1
        rw [HN.out] at this
        omega
end Go.Proofs.Ytcgkpgjjifggcaa
