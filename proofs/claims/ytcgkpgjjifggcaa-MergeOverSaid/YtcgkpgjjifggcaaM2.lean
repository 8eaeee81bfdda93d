/-
  Merge: plain laws: the cells of all lists in one row; what the merger tells, one by one.
-/
import Derived.Test.YtcgkpgjjifggcaaM1
namespace Go.Proofs.Ytcgkpgjjifggcaa.Pl
set_option linter.unusedVariables false
set_option linter.unusedSimpArgs false
set_option linter.unusedSectionVars false

section
variable {C V : Type} [DecidableEq V] (ver : C → V) (lt : V → V → Bool)

/-- A cell and its list's number: their order. -/
def lt2 (a b : C × Nat) : Bool := lt (ver a.1) (ver b.1) || (decide (ver a.1 = ver b.1) && decide (a.2 < b.2))
theorem lt2_trans (o : Ord lt) (a b c : C × Nat) (h : lt2 ver lt a b = true) (h2 : lt2 ver lt b c = true) : lt2 ver lt a c = true := by
  simp only [lt2, Bool.or_eq_true, Bool.and_eq_true, decide_eq_true_eq] at *
  rcases h with h | ⟨h, h'⟩
  · rcases h2 with h2 | ⟨h2, h2'⟩
    · exact .inl (o.trans _ _ _ h h2)
    · exact .inl (h2 ▸ h)
  · rcases h2 with h2 | ⟨h2, h2'⟩
    · exact .inl (h ▸ h2)
    · exact .inr ⟨h.trans h2, by omega⟩
theorem lt2_irr (o : Ord lt) (a : C × Nat) : lt2 ver lt a a = false := by simp [lt2, o.irr]
theorem lt2_asym (o : Ord lt) (a b : C × Nat) (h : lt2 ver lt a b = true) : lt2 ver lt b a = false := by
  cases h2 : lt2 ver lt b a with
  | false => rfl
  | true => have := lt2_trans ver lt o _ _ _ h h2; rw [lt2_irr ver lt o] at this; cases this
theorem lt2_ntrans (o : Ord lt) (a b c : C × Nat) (h : lt2 ver lt a b = false) (h2 : lt2 ver lt b c = false) : lt2 ver lt a c = false := by
  cases h3 : lt2 ver lt a c with
  | false => rfl
  | true =>
    simp only [lt2, Bool.or_eq_true, Bool.and_eq_true, Bool.or_eq_false_iff, Bool.and_eq_false_iff, decide_eq_true_eq, decide_eq_false_iff_not] at *
    obtain ⟨a1, a2⟩ := h
    obtain ⟨b1, b2⟩ := h2
    have c1 := o.ntrans _ _ _ a1 b1
    rcases h3 with h3 | ⟨h3, h4⟩
    · rw [c1] at h3; cases h3
    · rcases o.tri (ver a.1) (ver b.1) with t | t | t
      · rw [a1] at t; cases t
      · rcases a2 with a2 | a2
        · exact absurd t a2
        · rcases b2 with b2 | b2
          · exact absurd (t.symm.trans h3) b2
          · omega
      · rw [h3, b1] at t; cases t

/-- The cells of lists in one row, in their order. -/
def Row (T : List (C × Nat)) : Prop := T.Pairwise (fun a b => lt2 ver lt a b = true)
theorem row_tail {x : C × Nat} {T : List (C × Nat)} (h : Row ver lt (x :: T)) : Row ver lt T := (List.pairwise_cons.1 h).2
/-- What stands behind a version. -/
def past (v : V) (T : List (C × Nat)) : List (C × Nat) := T.dropWhile (fun x => decide (ver x.1 = v))
theorem past_len (v : V) (T : List (C × Nat)) : (past ver v T).length ≤ T.length := (List.dropWhile_suffix _).length_le
theorem past_row (v : V) (T : List (C × Nat)) (h : Row ver lt T) : Row ver lt (past ver v T) := List.Pairwise.sublist (List.dropWhile_sublist _) h
theorem past_nil (v : V) : past ver v ([] : List (C × Nat)) = [] := rfl
theorem past_same (v : V) (x : C × Nat) (T : List (C × Nat)) (h : ver x.1 = v) : past ver v (x :: T) = past ver v T := by simp [past, h]
theorem past_other (v : V) (x : C × Nat) (T : List (C × Nat)) (h : ver x.1 ≠ v) : past ver v (x :: T) = x :: T := by simp [past, h]
/-- Each version once. -/
def dd : List (C × Nat) → List C
  | [] => []
  | x :: T => x.1 :: dd (past ver (ver x.1) T)
  termination_by T => T.length
  decreasing_by simp; have := past_len ver (ver x.1) T; omega
theorem dd_nil : dd ver ([] : List (C × Nat)) = [] := by simp [dd]
theorem dd_cons (x : C × Nat) (T : List (C × Nat)) : dd ver (x :: T) = x.1 :: dd ver (past ver (ver x.1) T) := by rw [dd]
theorem dd_len (n : Nat) : ∀ T : List (C × Nat), T.length = n → (dd ver T).length ≤ T.length := by
  induction n using Nat.strongRecOn with
  | ind n ih =>
    intro T hT
    cases T with
    | nil => simp [dd_nil]
    | cons x T =>
      rw [dd_cons]
      have h1 := past_len ver (ver x.1) T
      have := ih _ (by simp at hT; omega) (past ver (ver x.1) T) rfl
      simp; omega
/-- Behind a version: the others alone. -/
theorem mem_past (o : Ord lt) (v : V) (T : List (C × Nat)) (h : Row ver lt T) (hv : ∀ x ∈ T, lt (ver x.1) v = false) (x : C × Nat) : x ∈ past ver v T ↔ x ∈ T ∧ ver x.1 ≠ v := by
  induction T with
  | nil => simp [past]
  | cons y T ih =>
    have h' := List.pairwise_cons.1 h
    have ih' := ih h'.2 (fun z hz => hv z (by simp [hz]))
    by_cases hy : ver y.1 = v
    · rw [past_same ver v y T hy, ih']
      constructor
      · rintro ⟨a, b⟩; exact ⟨by simp [a], b⟩
      · rintro ⟨a, b⟩
        rcases List.mem_cons.1 a with rfl | a
        · exact absurd hy b
        · exact ⟨a, b⟩
    · rw [past_other ver v y T hy]
      constructor
      · intro hx
        refine ⟨hx, fun e => ?_⟩
        rcases List.mem_cons.1 hx with rfl | hx
        · exact hy e
        · have h1 := h'.1 x hx
          have h2 := hv y (by simp)
          simp only [lt2, Bool.or_eq_true, Bool.and_eq_true, decide_eq_true_eq] at h1
          rcases h1 with h1 | ⟨h1, _⟩
          · rw [e, h2] at h1; cases h1
          · exact hy (h1.trans e)
      · exact fun h => h.1
theorem dd_spec (o : Ord lt) (n : Nat) : ∀ T : List (C × Nat), T.length = n → Row ver lt T →
    Srt ver lt (dd ver T) ∧ ∀ c, c ∈ dd ver T ↔ ∃ i, (c, i) ∈ T ∧ ∀ y ∈ T, ver y.1 = ver c → y = (c, i) ∨ i < y.2 := by
  induction n using Nat.strongRecOn with
  | ind n ih =>
    intro T hT hR
    cases T with
    | nil => simp [dd_nil, Srt]
    | cons x T =>
      have hR' := List.pairwise_cons.1 hR
      have hge : ∀ y ∈ T, lt (ver y.1) (ver x.1) = false := by
        intro y hy
        have h1 := hR'.1 y hy
        simp only [lt2, Bool.or_eq_true, Bool.and_eq_true, decide_eq_true_eq] at h1
        rcases h1 with h1 | ⟨h1, _⟩
        · exact o.asym _ _ h1
        · rw [h1]; exact o.irr _
      have hm := mem_past ver lt o (ver x.1) T hR'.2 hge
      have hl := past_len ver (ver x.1) T
      obtain ⟨i1, i2⟩ := ih _ (by simp at hT; omega) (past ver (ver x.1) T) rfl (past_row ver lt _ _ hR'.2)
      rw [dd_cons]
      refine ⟨List.pairwise_cons.2 ⟨fun c hc => ?_, i1⟩, fun c => ?_⟩
      · obtain ⟨i, h1, _⟩ := (i2 c).1 hc
        obtain ⟨h3, h4⟩ := (hm _).1 h1
        rcases o.tri (ver x.1) (ver c) with t | t | t
        · exact t
        · exact absurd t.symm h4
        · have := hge _ h3; simp only at this; rw [this] at t; cases t
      · constructor
        · intro hc
          rcases List.mem_cons.1 hc with rfl | hc
          · refine ⟨x.2, by simp, fun y hy hv => ?_⟩
            rcases List.mem_cons.1 hy with rfl | hy
            · exact .inl rfl
            · have h1 := hR'.1 y hy
              simp only [lt2, Bool.or_eq_true, Bool.and_eq_true, decide_eq_true_eq] at h1
              rcases h1 with h1 | ⟨_, h1⟩
              · rw [hv, o.irr] at h1; cases h1
              · exact .inr h1
          · obtain ⟨i, h1, h2⟩ := (i2 c).1 hc
            obtain ⟨h3, h4⟩ := (hm _).1 h1
            refine ⟨i, by simp [h3], fun y hy hv => ?_⟩
            rcases List.mem_cons.1 hy with rfl | hy
            · exact absurd hv.symm h4
            · exact h2 y ((hm y).2 ⟨hy, by rw [hv]; exact h4⟩) hv
        · rintro ⟨i, h1, h2⟩
          rcases List.mem_cons.1 h1 with h1 | h1
          · rw [← h1]; simp
          · by_cases hv : ver c = ver x.1
            · rcases h2 x (by simp) hv.symm with h3 | h3
              · rw [h3]; simp
              · have h4 := hR'.1 _ h1
                simp only [lt2, Bool.or_eq_true, Bool.and_eq_true, decide_eq_true_eq] at h4
                rcases h4 with h4 | ⟨_, h4⟩
                · rw [hv, o.irr] at h4; cases h4
                · omega
            · refine List.mem_cons_of_mem _ ((i2 c).2 ⟨i, (hm _).2 ⟨h1, hv⟩, fun y hy hv' => h2 y (by simp [((hm y).1 hy).1]) hv'⟩)

/-- Runs: what is left of lists, and their numbers; their cells. -/
def cellsOf (H : List (List C × Nat)) : List (C × Nat) := H.flatMap (fun r => r.1.map (fun c => (c, r.2)))
theorem cellsOf_cons (r : List C × Nat) (H : List (List C × Nat)) : cellsOf (r :: H) = r.1.map (fun c => (c, r.2)) ++ cellsOf H := by simp [cellsOf]
theorem cellsOf_perm {H K : List (List C × Nat)} (h : H.Perm K) : (cellsOf H).Perm (cellsOf K) := List.Perm.flatMap_right _ h
theorem cellsOf_len (H : List (List C × Nat)) : (cellsOf H).length = (H.map (fun r => r.1.length)).sum := by
  induction H with
  | nil => rfl
  | cons r H ih => rw [cellsOf_cons, List.length_append, ih]; simp
/-- Lists with their numbers, from one on; those that have cells. -/
def runsOf (L : List (List C)) : List (List C × Nat) := L.zipIdx.filter (fun r => !r.1.isEmpty)
theorem mem_runs (L : List (List C)) (c : C) (i : Nat) : (c, i) ∈ cellsOf (runsOf L) ↔ ∃ l : List C, L[i]? = some l ∧ c ∈ l := by
  simp only [cellsOf, runsOf, List.mem_flatMap, List.mem_filter, List.mem_map, Prod.mk.injEq]
  constructor
  · rintro ⟨⟨l, k⟩, ⟨h1, _⟩, d, h2, rfl, rfl⟩
    rw [List.mem_zipIdx_iff_getElem?] at h1
    exact ⟨l, h1, h2⟩
  · rintro ⟨l, h1, h2⟩
    refine ⟨(l, i), ⟨List.mem_zipIdx_iff_getElem?.2 h1, ?_⟩, c, h2, rfl, rfl⟩
    cases l with
    | nil => simp at h2
    | cons _ _ => rfl

/-- A row of the cells: in their order, all of them. -/
def RowOf (T : List (C × Nat)) (H : List (List C × Nat)) : Prop := Row ver lt T ∧ T.Perm (cellsOf H)
theorem rowOf_perm {T : List (C × Nat)} {H K : List (List C × Nat)} (h : RowOf ver lt T H) (p : H.Perm K) : RowOf ver lt T K := ⟨h.1, h.2.trans (cellsOf_perm p)⟩
theorem row_exists (o : Ord lt) (S : List (C × Nat)) (h : S.Pairwise (fun a b => lt2 ver lt a b = true ∨ lt2 ver lt b a = true)) : ∃ T, Row ver lt T ∧ T.Perm S := by
  induction S with
  | nil => exact ⟨[], List.Pairwise.nil, List.Perm.refl _⟩
  | cons x S ih =>
    have h' := List.pairwise_cons.1 h
    obtain ⟨T, h1, h2⟩ := ih h'.2
    have hx : ∀ y ∈ T, lt2 ver lt x y = true ∨ lt2 ver lt y x = true := fun y hy => h'.1 y (h2.mem_iff.1 hy)
    have ins : ∀ T : List (C × Nat), Row ver lt T → (∀ y ∈ T, lt2 ver lt x y = true ∨ lt2 ver lt y x = true) → ∃ U, Row ver lt U ∧ U.Perm (x :: T) := by
      intro T
      induction T with
      | nil => intro _ _; exact ⟨[x], List.pairwise_singleton _ _, List.Perm.refl _⟩
      | cons y T ihT =>
        intro hT hxT
        have hT' := List.pairwise_cons.1 hT
        rcases hxT y (by simp) with h3 | h3
        · refine ⟨x :: y :: T, List.pairwise_cons.2 ⟨fun z hz => ?_, hT⟩, List.Perm.refl _⟩
          rcases List.mem_cons.1 hz with rfl | hz
          · exact h3
          · exact lt2_trans ver lt o _ _ _ h3 (hT'.1 z hz)
        · obtain ⟨U, u1, u2⟩ := ihT hT'.2 (fun z hz => hxT z (by simp [hz]))
          refine ⟨y :: U, List.pairwise_cons.2 ⟨fun z hz => ?_, u1⟩, (List.Perm.cons y u2).trans (List.Perm.swap x y T)⟩
          rcases List.mem_cons.1 (u2.mem_iff.1 hz) with rfl | hz
          · exact h3
          · exact hT'.1 z hz
    obtain ⟨U, u1, u2⟩ := ins T h1 hx
    exact ⟨U, u1, u2.trans (List.Perm.cons x h2)⟩
theorem lt2_of_ne (o : Ord lt) (a b : C × Nat) (h : a.2 ≠ b.2) : lt2 ver lt a b = true ∨ lt2 ver lt b a = true := by
  simp only [lt2, Bool.or_eq_true, Bool.and_eq_true, decide_eq_true_eq]
  rcases o.tri (ver a.1) (ver b.1) with t | t | t
  · exact .inl (.inl t)
  · rcases Nat.lt_or_ge a.2 b.2 with h2 | h2
    · exact .inl (.inr ⟨t, h2⟩)
    · exact .inr (.inr ⟨t.symm, by omega⟩)
  · exact .inr (.inl t)
theorem rowOf_exists (o : Ord lt) (H : List (List C × Nat)) (hs : ∀ r ∈ H, Srt ver lt r.1) (hd : H.Pairwise (fun a b => a.2 ≠ b.2)) : ∃ T, RowOf ver lt T H := by
  refine row_exists ver lt o (cellsOf H) ?_
  induction H with
  | nil => exact List.Pairwise.nil
  | cons r H ih =>
    have hd' := List.pairwise_cons.1 hd
    rw [cellsOf_cons, List.pairwise_append]
    refine ⟨?_, ih (fun s hs' => hs s (by simp [hs'])) hd'.2, ?_⟩
    · rw [List.pairwise_map]
      exact (hs r (by simp)).imp (fun {a b} h => .inl (by simp [lt2, h]))
    · intro a ha b hb
      simp only [List.mem_map] at ha
      obtain ⟨c, hc, rfl⟩ := ha
      simp only [cellsOf, List.mem_flatMap, List.mem_map] at hb
      obtain ⟨s, hs', d, hd2, rfl⟩ := hb
      exact lt2_of_ne ver lt o _ _ (hd'.1 s hs')
theorem runsOf_apart (L : List (List C)) : (runsOf L).Pairwise (fun a b => a.2 ≠ b.2) := by
  refine List.Pairwise.sublist List.filter_sublist ?_
  have : (L.zipIdx).Pairwise (fun a b => a.2 ≠ b.2) := by
    rw [List.pairwise_iff_getElem]
    intro i j hi hj hij
    simp; omega
  exact this
theorem runsOf_srt (L : List (List C)) (h : ∀ l ∈ L, Srt ver lt l) : ∀ r ∈ runsOf L, Srt ver lt r.1 := by
  intro r hr
  have := (List.mem_filter.1 hr).1
  rw [List.mem_zipIdx_iff_getElem?] at this
  exact h _ (List.mem_of_getElem? this)
/-- What the merger tells is what the document tells. -/
theorem dd_docAll (o : Ord lt) (L : List (List C)) (hs : ∀ l ∈ L, Srt ver lt l) (T : List (C × Nat)) (hT : RowOf ver lt T (runsOf L)) : dd ver T = docAll ver lt L := by
  obtain ⟨d1, d2⟩ := dd_spec ver lt o _ T rfl hT.1
  obtain ⟨a1, a2⟩ := docAll_spec ver lt o _ L rfl hs
  refine srt_ext ver lt o _ _ d1 a1 (fun c => ?_)
  rw [d2, a2]
  have hm : ∀ c i, (c, i) ∈ T ↔ ∃ l : List C, L[i]? = some l ∧ c ∈ l := fun c i => by rw [hT.2.mem_iff, mem_runs]
  constructor
  · rintro ⟨i, h1, h2⟩
    obtain ⟨l, h3, h4⟩ := (hm c i).1 h1
    refine ⟨i, l, h3, h4, fun j m hj d hd hv => ?_⟩
    rcases h2 (d, j) ((hm d j).2 ⟨m, hj, hd⟩) hv with h5 | h5
    · simp only [Prod.mk.injEq] at h5; omega
    · simp only at h5; omega
  · rintro ⟨i, l, h1, h2, h3⟩
    refine ⟨i, (hm c i).2 ⟨l, h1, h2⟩, fun y hy hv => ?_⟩
    obtain ⟨d, j⟩ := y
    obtain ⟨m, h4, h5⟩ := (hm d j).1 hy
    have h6 := h3 j m h4 d h5 hv
    rcases Nat.lt_or_ge i j with h7 | h7
    · exact .inr h7
    · have : i = j := by omega
      subst this
      rw [h1] at h4
      cases h4
      refine .inl ?_
      have hsl := hs l (List.mem_of_getElem? h1)
      obtain ⟨p, hp, rfl⟩ := List.getElem_of_mem h2
      obtain ⟨q, hq, rfl⟩ := List.getElem_of_mem h5
      have hpq := List.pairwise_iff_getElem.1 hsl
      rcases Nat.lt_trichotomy p q with h8 | h8 | h8
      · have := hpq p q hp hq h8
        rw [hv, o.irr] at this; cases this
      · subst h8; rfl
      · have := hpq q p hq hp h8
        rw [hv, o.irr] at this; cases this

/-- The first run has the first cell: one is taken. -/
theorem rowOf_take (o : Ord lt) (c : C) (l : List C) (i : Nat) (H : List (List C × Nat)) (T : List (C × Nat)) (hT : RowOf ver lt T ((c :: l, i) :: H)) (hs : Srt ver lt (c :: l)) (hsH : ∀ r ∈ H, Srt ver lt r.1)
    (hmin : ∀ r ∈ H, ∀ d m, r.1 = d :: m → lt2 ver lt (d, r.2) (c, i) = false) : ∃ U, T = (c, i) :: U ∧ RowOf ver lt U ((l, i) :: H) := by
  obtain ⟨hR, hP⟩ := hT
  cases T with
  | nil =>
    have := hP.length_eq
    rw [cellsOf_cons] at this
    simp at this
  | cons x U =>
    have hR' := List.pairwise_cons.1 hR
    have hci : (c, i) ∈ x :: U := hP.mem_iff.2 (by rw [cellsOf_cons]; simp)
    have hx : x = (c, i) := by
      rcases List.mem_cons.1 hci with h | h
      · exact h.symm
      · have h1 := hR'.1 _ h
        have h2 : x ∈ cellsOf ((c :: l, i) :: H) := hP.mem_iff.1 (by simp)
        rw [cellsOf_cons] at h2
        exfalso
        rcases List.mem_append.1 h2 with h2 | h2
        · simp only [List.map_cons, List.mem_cons, List.mem_map] at h2
          rcases h2 with rfl | ⟨d, hd, rfl⟩
          · rw [lt2_irr ver lt o] at h1; cases h1
          · have := (List.pairwise_cons.1 hs).1 d hd
            have h3 : lt2 ver lt (c, i) (d, i) = true := by simp [lt2, this]
            rw [lt2_asym ver lt o _ _ h3] at h1; cases h1
        · simp only [cellsOf, List.mem_flatMap, List.mem_map] at h2
          obtain ⟨r, hr, e, he, rfl⟩ := h2
          cases hrl : r.1 with
          | nil => rw [hrl] at he; simp at he
          | cons d m =>
            have h4 := hmin r hr d m hrl
            rw [hrl] at he
            rcases List.mem_cons.1 he with rfl | he
            · rw [h4] at h1; cases h1
            · have h5 := hsH r hr
              rw [hrl] at h5
              have h6 := (List.pairwise_cons.1 h5).1 e he
              have h7 : lt2 ver lt (d, r.2) (e, r.2) = true := by simp [lt2, h6]
              have := lt2_trans ver lt o _ _ _ h7 h1
              rw [h4] at this; cases this
    subst hx
    refine ⟨U, rfl, hR'.2, ?_⟩
    rw [cellsOf_cons] at hP ⊢
    simp only [List.map_cons, List.cons_append] at hP
    exact (List.perm_cons _).1 hP
theorem rowOf_empty (i : Nat) (H : List (List C × Nat)) (T : List (C × Nat)) : RowOf ver lt T (([], i) :: H) ↔ RowOf ver lt T H := by
  unfold RowOf; rw [cellsOf_cons]; simp
end
end Go.Proofs.Ytcgkpgjjifggcaa.Pl
