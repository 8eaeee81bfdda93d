/-
  Merge: plain laws: lists merged two by two; what both the document and the program tell of lists.
-/
import Derived.WalkKit
namespace Go.Proofs.Ytcgkpgjjifggcaa.Pl
set_option linter.unusedVariables false
set_option linter.unusedSimpArgs false
set_option linter.unusedSectionVars false

/-- A strict order. -/
structure Ord {V : Type} (lt : V → V → Bool) : Prop where
  irr : ∀ a, lt a a = false
  trans : ∀ a b c, lt a b = true → lt b c = true → lt a c = true
  tri : ∀ a b, lt a b = true ∨ a = b ∨ lt b a = true
theorem Ord.asym {V : Type} {lt : V → V → Bool} (o : Ord lt) (a b : V) (h : lt a b = true) : lt b a = false := by
  cases h2 : lt b a with
  | false => rfl
  | true => have := o.trans _ _ _ h h2; rw [o.irr] at this; cases this
theorem Ord.ntrans {V : Type} {lt : V → V → Bool} (o : Ord lt) (a b c : V) (h : lt a b = false) (h2 : lt b c = false) : lt a c = false := by
  cases h3 : lt a c with
  | false => rfl
  | true =>
    rcases o.tri a b with h4 | rfl | h4
    · rw [h] at h4; cases h4
    · rw [h2] at h3; cases h3
    · have := o.trans _ _ _ h4 h3; rw [h2] at this; cases this

section
variable {C V : Type} [DecidableEq V] (ver : C → V) (lt : V → V → Bool)

def Srt (l : List C) : Prop := l.Pairwise (fun a b => lt (ver a) (ver b) = true)

/-- Two sorted lists with the same members are the same. -/
theorem srt_ext (o : Ord lt) : ∀ (a b : List C), Srt ver lt a → Srt ver lt b → (∀ c, c ∈ a ↔ c ∈ b) → a = b
  | [], [], _, _, _ => rfl
  | [], y :: b, _, _, h => absurd ((h y).2 (by simp)) (by simp)
  | x :: a, [], _, _, h => absurd ((h x).1 (by simp)) (by simp)
  | x :: a, y :: b, ha, hb, h => by
    have ha' := List.pairwise_cons.1 ha
    have hb' := List.pairwise_cons.1 hb
    have hxy : x = y := by
      have h1 := (h x).1 (by simp)
      have h2 := (h y).2 (by simp)
      rcases List.mem_cons.1 h1 with h1 | h1
      · exact h1
      rcases List.mem_cons.1 h2 with h2 | h2
      · exact h2.symm
      have e1 := hb'.1 x h1
      have e2 := ha'.1 y h2
      have := o.asym _ _ e1
      rw [this] at e2; cases e2
    subst hxy
    have : a = b := srt_ext o a b ha'.2 hb'.2 (fun c => by
      constructor
      · intro hc
        rcases List.mem_cons.1 ((h c).1 (by simp [hc])) with h1 | h1
        · subst h1
          have := ha'.1 c hc
          rw [o.irr] at this; cases this
        · exact h1
      · intro hc
        rcases List.mem_cons.1 ((h c).2 (by simp [hc])) with h1 | h1
        · subst h1
          have := hb'.1 c hc
          rw [o.irr] at this; cases this
        · exact h1)
    rw [this]

/-- Two lists as one, as the document does. -/
def mrg : List C → List C → List C
  | [], b => b
  | x :: a, [] => x :: a
  | x :: a, y :: b => if lt (ver y) (ver x) then y :: mrg (x :: a) b else if ver x = ver y then x :: mrg a b else x :: mrg a (y :: b)
  termination_by a b => a.length + b.length
theorem mrg_nil (a : List C) : mrg ver lt a [] = a := by cases a <;> simp [mrg]
theorem nil_mrg (a : List C) : mrg ver lt [] a = a := by simp [mrg]
theorem mrg_b (x y : C) (a b : List C) (h : lt (ver y) (ver x) = true) : mrg ver lt (x :: a) (y :: b) = y :: mrg ver lt (x :: a) b := by rw [mrg, if_pos h]
theorem mrg_ab (x y : C) (a b : List C) (h : lt (ver y) (ver x) = false) (h2 : ver x = ver y) : mrg ver lt (x :: a) (y :: b) = x :: mrg ver lt a b := by rw [mrg, if_neg (by simp [h]), if_pos h2]
theorem mrg_a (x y : C) (a b : List C) (h : lt (ver y) (ver x) = false) (h2 : ver x ≠ ver y) : mrg ver lt (x :: a) (y :: b) = x :: mrg ver lt a (y :: b) := by rw [mrg, if_neg (by simp [h]), if_neg h2]

theorem mrg_spec (o : Ord lt) (a b : List C) (ha : Srt ver lt a) (hb : Srt ver lt b) :
    Srt ver lt (mrg ver lt a b) ∧ ∀ c, c ∈ mrg ver lt a b ↔ c ∈ a ∨ (c ∈ b ∧ ∀ d ∈ a, ver d ≠ ver c) := by
  fun_induction mrg ver lt a b with
  | case1 b => exact ⟨hb, fun c => by simp⟩
  | case2 x a => exact ⟨ha, fun c => by simp⟩
  | case3 x a y b h ih =>
    have hb' := List.pairwise_cons.1 hb
    obtain ⟨i1, i2⟩ := ih ha hb'.2
    have ha' := List.pairwise_cons.1 ha
    have hya : ∀ d ∈ x :: a, lt (ver y) (ver d) = true := by
      intro d hd
      rcases List.mem_cons.1 hd with rfl | hd
      · exact h
      · exact o.trans _ _ _ h (ha'.1 d hd)
    refine ⟨List.pairwise_cons.2 ⟨?_, i1⟩, ?_⟩
    · intro c hc
      rcases (i2 c).1 hc with h1 | ⟨h1, _⟩
      · exact hya c h1
      · exact hb'.1 c h1
    · intro c
      constructor
      · intro hc
        rcases List.mem_cons.1 hc with rfl | hc
        · refine .inr ⟨by simp, fun d hd e => ?_⟩
          have := hya d hd
          rw [e, o.irr] at this; cases this
        · rcases (i2 c).1 hc with h1 | ⟨h1, h2⟩
          · exact .inl h1
          · exact .inr ⟨by simp [h1], h2⟩
      · rintro (h1 | ⟨h1, h2⟩)
        · exact List.mem_cons_of_mem _ ((i2 c).2 (.inl h1))
        · rcases List.mem_cons.1 h1 with rfl | h1
          · simp
          · exact List.mem_cons_of_mem _ ((i2 c).2 (.inr ⟨h1, h2⟩))
  | case4 x a y b h e ih =>
    have h : lt (ver y) (ver x) = false := by simpa using h
    have ha' := List.pairwise_cons.1 ha
    have hb' := List.pairwise_cons.1 hb
    obtain ⟨i1, i2⟩ := ih ha'.2 hb'.2
    refine ⟨List.pairwise_cons.2 ⟨?_, i1⟩, ?_⟩
    · intro c hc
      rcases (i2 c).1 hc with h1 | ⟨h1, _⟩
      · exact ha'.1 c h1
      · rw [e]; exact hb'.1 c h1
    · intro c
      constructor
      · intro hc
        rcases List.mem_cons.1 hc with rfl | hc
        · exact .inl (by simp)
        · rcases (i2 c).1 hc with h1 | ⟨h1, h2⟩
          · exact .inl (by simp [h1])
          · refine .inr ⟨by simp [h1], fun d hd => ?_⟩
            rcases List.mem_cons.1 hd with rfl | hd
            · intro e2
              have := hb'.1 c h1
              rw [← e, e2, o.irr] at this; cases this
            · exact h2 d hd
      · rintro (h1 | ⟨h1, h2⟩)
        · rcases List.mem_cons.1 h1 with rfl | h1
          · simp
          · exact List.mem_cons_of_mem _ ((i2 c).2 (.inl h1))
        · rcases List.mem_cons.1 h1 with rfl | h1
          · exact absurd e (h2 x (by simp))
          · exact List.mem_cons_of_mem _ ((i2 c).2 (.inr ⟨h1, fun d hd => h2 d (by simp [hd])⟩))
  | case5 x a y b h e ih =>
    have h : lt (ver y) (ver x) = false := by simpa using h
    have ha' := List.pairwise_cons.1 ha
    have hb' := List.pairwise_cons.1 hb
    obtain ⟨i1, i2⟩ := ih ha'.2 hb
    have hxy : lt (ver x) (ver y) = true := by
      rcases o.tri (ver x) (ver y) with h1 | h1 | h1
      · exact h1
      · exact absurd h1 e
      · rw [h] at h1; cases h1
    have hxb : ∀ d ∈ y :: b, lt (ver x) (ver d) = true := by
      intro d hd
      rcases List.mem_cons.1 hd with rfl | hd
      · exact hxy
      · exact o.trans _ _ _ hxy (hb'.1 d hd)
    refine ⟨List.pairwise_cons.2 ⟨?_, i1⟩, ?_⟩
    · intro c hc
      rcases (i2 c).1 hc with h1 | ⟨h1, _⟩
      · exact ha'.1 c h1
      · exact hxb c h1
    · intro c
      constructor
      · intro hc
        rcases List.mem_cons.1 hc with rfl | hc
        · exact .inl (by simp)
        · rcases (i2 c).1 hc with h1 | ⟨h1, h2⟩
          · exact .inl (by simp [h1])
          · refine .inr ⟨h1, fun d hd => ?_⟩
            rcases List.mem_cons.1 hd with rfl | hd
            · intro e2
              have := hxb c h1
              rw [e2, o.irr] at this; cases this
            · exact h2 d hd
      · rintro (h1 | ⟨h1, h2⟩)
        · rcases List.mem_cons.1 h1 with rfl | h1
          · simp
          · exact List.mem_cons_of_mem _ ((i2 c).2 (.inl h1))
        · exact List.mem_cons_of_mem _ ((i2 c).2 (.inr ⟨h1, fun d hd => h2 d (by simp [hd])⟩))

/-- A cell of the first list that has its version. -/
def First (L : List (List C)) (c : C) : Prop := ∃ (i : Nat) (l : List C), L[i]? = some l ∧ c ∈ l ∧ ∀ (j : Nat) (m : List C), L[j]? = some m → ∀ d ∈ m, ver d = ver c → i ≤ j
theorem first_has (L : List (List C)) (v : V) : (∃ l ∈ L, ∃ d ∈ l, ver d = v) ↔ ∃ d, First ver L d ∧ ver d = v := by
  constructor
  · rintro ⟨l, hl, d, hd, hv⟩
    obtain ⟨i, hi, rfl⟩ := List.getElem_of_mem hl
    have hP : ∃ n : Nat, ∃ l : List C, L[n]? = some l ∧ ∃ d ∈ l, ver d = v := ⟨i, L[i], by simp [hi], d, hd, hv⟩
    clear hl hd hv
    have hmin : ∀ n : Nat, (∃ l : List C, L[n]? = some l ∧ ∃ d ∈ l, ver d = v) → ∃ k : Nat, (∃ l : List C, L[k]? = some l ∧ ∃ d ∈ l, ver d = v) ∧ ∀ j : Nat, j < k → ¬ ∃ l : List C, L[j]? = some l ∧ ∃ d ∈ l, ver d = v := by
      intro n
      induction n using Nat.strongRecOn with
      | ind n ih =>
        intro h
        by_cases hc : ∃ j : Nat, j < n ∧ ∃ l : List C, L[j]? = some l ∧ ∃ d ∈ l, ver d = v
        · obtain ⟨j, hj, h2⟩ := hc
          exact ih j hj h2
        · exact ⟨n, h, fun j hj h2 => hc ⟨j, hj, h2⟩⟩
    obtain ⟨n, hn⟩ := hP
    obtain ⟨k, ⟨l, h1, d, h2, h3⟩, h4⟩ := hmin n hn
    refine ⟨d, ⟨k, l, h1, h2, fun j m hm e he hv => ?_⟩, h3⟩
    rcases Nat.lt_or_ge j k with h5 | h5
    · exact absurd ⟨m, hm, e, he, by rw [hv, h3]⟩ (h4 j h5)
    · exact h5
  · rintro ⟨d, ⟨i, l, h1, h2, _⟩, hv⟩
    exact ⟨l, List.mem_of_getElem? h1, d, h2, hv⟩
theorem first_append (L M : List (List C)) (c : C) : First ver (L ++ M) c ↔ First ver L c ∨ (First ver M c ∧ ∀ l ∈ L, ∀ d ∈ l, ver d ≠ ver c) := by
  constructor
  · rintro ⟨i, l, h1, h2, h3⟩
    by_cases hi : i < L.length
    · rw [List.getElem?_append_left hi] at h1
      refine .inl ⟨i, l, h1, h2, fun j m hm d hd hv => h3 j m ?_ d hd hv⟩
      have hj : j < L.length := (List.getElem?_eq_some_iff.1 hm).1
      rw [List.getElem?_append_left hj]; exact hm
    · have hi' : L.length ≤ i := by omega
      rw [List.getElem?_append_right hi'] at h1
      refine .inr ⟨⟨i - L.length, l, h1, h2, fun j m hm d hd hv => ?_⟩, fun m hm d hd hv => ?_⟩
      · have := h3 (j + L.length) m (by rw [List.getElem?_append_right (by omega)]; simpa using hm) d hd hv
        omega
      · obtain ⟨j, hj, rfl⟩ := List.getElem_of_mem hm
        have := h3 j L[j] (by rw [List.getElem?_append_left hj]; simp [hj]) d hd hv
        omega
  · rintro (⟨i, l, h1, h2, h3⟩ | ⟨⟨i, l, h1, h2, h3⟩, h4⟩)
    · have hi : i < L.length := (List.getElem?_eq_some_iff.1 h1).1
      refine ⟨i, l, by rw [List.getElem?_append_left hi]; exact h1, h2, fun j m hm d hd hv => ?_⟩
      by_cases hj : j < L.length
      · rw [List.getElem?_append_left hj] at hm
        exact h3 j m hm d hd hv
      · omega
    · refine ⟨i + L.length, l, by rw [List.getElem?_append_right (by omega)]; simpa using h1, h2, fun j m hm d hd hv => ?_⟩
      by_cases hj : j < L.length
      · rw [List.getElem?_append_left hj] at hm
        exact absurd hv (h4 m (List.mem_of_getElem? hm) d hd)
      · have hj' : L.length ≤ j := by omega
        rw [List.getElem?_append_right hj'] at hm
        have := h3 _ m hm d hd hv
        omega
theorem first_one (l : List C) (c : C) : First ver [l] c ↔ c ∈ l := by
  constructor
  · rintro ⟨i, m, h1, h2, _⟩
    obtain ⟨hi, rfl⟩ := List.getElem?_eq_some_iff.1 h1
    have : i = 0 := by simpa using hi
    subst this; exact h2
  · intro h
    exact ⟨0, l, rfl, h, fun _ _ _ _ _ _ => Nat.zero_le _⟩

/-- What the document tells. -/
def docAll (L : List (List C)) : List C := L.foldl (mrg ver lt) []
theorem docAll_snoc (L : List (List C)) (l : List C) : docAll ver lt (L ++ [l]) = mrg ver lt (docAll ver lt L) l := by simp [docAll]
theorem docAll_spec (o : Ord lt) (n : Nat) : ∀ L : List (List C), L.length = n → (∀ l ∈ L, Srt ver lt l) → Srt ver lt (docAll ver lt L) ∧ ∀ c, c ∈ docAll ver lt L ↔ First ver L c := by
  induction n with
  | zero =>
    intro L hL _
    have : L = [] := List.length_eq_zero_iff.1 hL
    subst this
    refine ⟨by simp [docAll, Srt], fun c => ?_⟩
    simp [docAll, First]
  | succ n ih =>
    intro L hL hs
    have hne : L ≠ [] := fun h => by rw [h] at hL; simp at hL
    obtain ⟨M, l, rfl⟩ : ∃ M l, L = M ++ [l] := ⟨L.dropLast, L.getLast hne, (List.dropLast_concat_getLast hne).symm⟩
    obtain ⟨i1, i2⟩ := ih M (by simpa using hL) (fun m hm => hs m (by simp [hm]))
    obtain ⟨m1, m2⟩ := mrg_spec ver lt o _ l i1 (hs l (by simp))
    rw [docAll_snoc]
    refine ⟨m1, fun c => ?_⟩
    rw [m2, i2, first_append, first_one]
    constructor
    · rintro (h | ⟨h, h2⟩)
      · exact .inl h
      · refine .inr ⟨h, fun m hm d hd hv => ?_⟩
        obtain ⟨d', h3, h4⟩ := (first_has ver M (ver c)).1 ⟨m, hm, d, hd, hv⟩
        exact h2 d' ((i2 d').2 h3) h4
    · rintro (h | ⟨h, h2⟩)
      · exact .inl h
      · refine .inr ⟨h, fun d hd hv => ?_⟩
        obtain ⟨m, hm, d', hd', hv'⟩ := (first_has ver M (ver c)).2 ⟨d, (i2 d).1 hd, hv⟩
        exact h2 m hm d' hd' hv'
/-- Lists merged in two groups. -/
theorem docAll_groups (o : Ord lt) (L M : List (List C)) (hL : ∀ l ∈ L, Srt ver lt l) (hM : ∀ l ∈ M, Srt ver lt l) :
    docAll ver lt [docAll ver lt L, docAll ver lt M] = docAll ver lt (L ++ M) := by
  obtain ⟨l1, l2⟩ := docAll_spec ver lt o _ L rfl hL
  obtain ⟨m1, m2⟩ := docAll_spec ver lt o _ M rfl hM
  obtain ⟨a1, a2⟩ := docAll_spec ver lt o _ (L ++ M) rfl (fun l hl => by
    rcases List.mem_append.1 hl with h | h
    · exact hL l h
    · exact hM l h)
  have e : docAll ver lt [docAll ver lt L, docAll ver lt M] = mrg ver lt (docAll ver lt L) (docAll ver lt M) := by
    show mrg ver lt (mrg ver lt [] _) _ = _
    rw [nil_mrg]
  rw [e]
  obtain ⟨g1, g2⟩ := mrg_spec ver lt o _ _ l1 m1
  refine srt_ext ver lt o _ _ g1 a1 (fun c => ?_)
  rw [g2, a2, l2, m2, first_append]
  constructor
  · rintro (h | ⟨h, h2⟩)
    · exact .inl h
    · refine .inr ⟨h, fun m hm d hd hv => ?_⟩
      obtain ⟨d', h3, h4⟩ := (first_has ver L (ver c)).1 ⟨m, hm, d, hd, hv⟩
      exact h2 d' ((l2 d').2 h3) h4
  · rintro (h | ⟨h, h2⟩)
    · exact .inl h
    · refine .inr ⟨h, fun d hd hv => ?_⟩
      obtain ⟨m, hm, d', hd', hv'⟩ := (first_has ver L (ver c)).2 ⟨d, (l2 d).1 hd, hv⟩
      exact h2 m hm d' hd' hv'
/-- A list with itself and with none. -/
theorem mrg_self : ∀ (o : Ord lt) (a : List C), mrg ver lt a a = a
  | _, [] => by simp [mrg]
  | o, x :: a => by rw [mrg_ab ver lt x x a a (o.irr _) rfl, mrg_self o a]
theorem docAll_twice (o : Ord lt) (a : List C) : docAll ver lt [a, [], a] = a := by
  show mrg ver lt (mrg ver lt (mrg ver lt [] a) []) a = a
  rw [nil_mrg, mrg_nil, mrg_self ver lt o]
end
end Go.Proofs.Ytcgkpgjjifggcaa.Pl
