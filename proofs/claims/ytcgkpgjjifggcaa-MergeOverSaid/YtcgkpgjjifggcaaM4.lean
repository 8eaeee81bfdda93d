/-
  Merge: plain laws: what a view tells; pairs behind changes.
-/
import Derived.Test.YtcgkpgjjifggcaaM2
namespace Go.Proofs.Ytcgkpgjjifggcaa.Pl
set_option linter.unusedVariables false
set_option linter.unusedSimpArgs false
set_option linter.unusedSectionVars false

section
variable {C K P : Type} [DecidableEq K] (lt : K → K → Bool) (key : C → K) (low : C → Bool) (tell : C → List P) (pk : P → K)

/-- The program's view: the last key that was told. -/
def viewGo : Option K → List C → List P
  | _, [] => []
  | st, c :: l => if low c = false ∨ st = some (key c) then viewGo st l else tell c ++ viewGo (some (key c)) l
def viewSt : Option K → List C → Option K
  | st, [] => st
  | st, c :: l => if low c = false ∨ st = some (key c) then viewSt st l else viewSt (some (key c)) l
theorem viewGo_snoc (c : C) : ∀ (l : List C) (st : Option K), viewGo key low tell st (l ++ [c]) = viewGo key low tell st l ++ (if low c = false ∨ viewSt key low st l = some (key c) then [] else tell c)
  | [], st => by
    by_cases h : low c = false ∨ st = some (key c)
    · simp only [List.nil_append, viewGo, viewSt, if_pos h]
      exact (if_pos h).symm
    · simp only [List.nil_append, viewGo, viewSt, if_neg h, List.append_nil]
      exact (if_neg h).symm
  | d :: l, st => by
    simp only [List.cons_append, viewGo, viewSt]
    split
    · exact viewGo_snoc c l st
    · rw [viewGo_snoc c l, List.append_assoc]
theorem viewSt_snoc (c : C) : ∀ (l : List C) (st : Option K), viewSt key low st (l ++ [c]) = if low c = false ∨ viewSt key low st l = some (key c) then viewSt key low st l else some (key c)
  | [], st => by
    by_cases h : low c = false ∨ st = some (key c)
    · simp only [List.nil_append, viewSt, if_pos h]
      exact (if_pos h).symm
    · simp only [List.nil_append, viewSt, if_neg h]
      exact (if_neg h).symm
  | d :: l, st => by
    simp only [List.cons_append, viewSt]
    split
    · exact viewSt_snoc c l st
    · exact viewSt_snoc c l _
theorem viewGo_low (l : List C) : ∀ st, viewGo key low tell st (l.filter low) = viewGo key low tell st l := by
  induction l with
  | nil => intro st; rfl
  | cons c l ih =>
    intro st
    by_cases h : low c = true
    · rw [List.filter_cons_of_pos h]
      simp only [viewGo]
      split
      · exact ih st
      · rw [ih]
    · have h : low c = false := by simpa using h
      rw [List.filter_cons_of_neg (by simp [h])]
      simp only [viewGo, h, true_or, if_true]
      exact ih st
/-- The document's view. -/
def docV (pre : List C) (c : C) : List P := if low c = false then [] else if pre.all (fun d => decide (key d ≠ key c) || !low d) then tell c else []
def docGo : List C → List C → List P
  | _, [] => []
  | pre, c :: l => docV key low tell pre c ++ docGo (pre ++ [c]) l
theorem docGo_snoc (c : C) : ∀ (l pre : List C), docGo key low tell pre (l ++ [c]) = docGo key low tell pre l ++ docV key low tell (pre ++ l) c
  | [], pre => by simp [docGo]
  | d :: l, pre => by
    simp only [List.cons_append, docGo, List.append_assoc]
    rw [docGo_snoc c l]
    simp
/-- Keys that don't fall. -/
def Nd (l : List C) : Prop := l.Pairwise (fun a b => lt (key b) (key a) = false)
theorem view_doc (o : Ord lt) : ∀ (l pre : List C) (st : Option K), Nd lt key (pre ++ l) → (∀ d ∈ pre, low d = true → ∃ k, st = some k ∧ lt k (key d) = false) → (∀ k, st = some k → ∃ d ∈ pre, low d = true ∧ key d = k) →
    viewGo key low tell st l = docGo key low tell pre l
  | [], _, _, _, _, _ => rfl
  | c :: l, pre, st, hn, h1, h2 => by
    have hn' : Nd lt key ((pre ++ [c]) ++ l) := by simpa using hn
    have hpc : ∀ d ∈ pre, lt (key c) (key d) = false := fun d hd => (List.pairwise_append.1 hn).2.2 d hd c (by simp)
    simp only [viewGo, docGo]
    by_cases hl : low c = true
    · by_cases hs : st = some (key c)
      · rw [if_pos (.inr hs)]
        have e : docV key low tell pre c = [] := by
          obtain ⟨d, hd, hd1, hd2⟩ := h2 _ hs
          unfold docV
          rw [if_neg (by simp [hl]), if_neg]
          intro h
          have := List.all_eq_true.1 h d hd
          simp [hd1, hd2] at this
        rw [e, List.nil_append]
        refine view_doc o l (pre ++ [c]) st hn' (fun d hd hd1 => ?_) (fun k hk => ?_)
        · rcases List.mem_append.1 hd with hd | hd
          · exact h1 d hd hd1
          · simp at hd; subst hd; exact ⟨_, hs, o.irr _⟩
        · obtain ⟨d, a, b⟩ := h2 k hk
          exact ⟨d, by simp [a], b⟩
      · rw [if_neg (by simp [hl, hs])]
        have e : docV key low tell pre c = tell c := by
          unfold docV
          rw [if_neg (by simp [hl]), if_pos]
          rw [List.all_eq_true]
          intro d hd
          by_cases hd1 : low d = true
          · have : key d ≠ key c := by
              intro e
              obtain ⟨k, hk, hk2⟩ := h1 d hd hd1
              obtain ⟨f, hf, _, hf2⟩ := h2 k hk
              have h3 := hpc f hf
              rw [hf2] at h3
              rw [e] at hk2
              rcases o.tri k (key c) with h4 | h4 | h4
              · rw [hk2] at h4; cases h4
              · exact hs (by rw [hk, h4])
              · rw [h3] at h4; cases h4
            simp [this]
          · simp [hd1]
        rw [e]
        congr 1
        refine view_doc o l (pre ++ [c]) _ hn' (fun d hd hd1 => ⟨_, rfl, ?_⟩) (fun k hk => ⟨c, by simp, hl, by simpa using hk⟩)
        rcases List.mem_append.1 hd with hd | hd
        · exact hpc d hd
        · simp at hd; subst hd; exact o.irr _
    · have hl : low c = false := by simpa using hl
      rw [if_pos (.inl hl)]
      have e : docV key low tell pre c = [] := by unfold docV; rw [if_pos hl]
      rw [e, List.nil_append]
      refine view_doc o l (pre ++ [c]) st hn' (fun d hd hd1 => ?_) (fun k hk => ?_)
      · rcases List.mem_append.1 hd with hd | hd
        · exact h1 d hd hd1
        · simp at hd; subst hd; rw [hl] at hd1; cases hd1
      · obtain ⟨d, a, b⟩ := h2 k hk
        exact ⟨d, by simp [a], b⟩
theorem view_is_doc (o : Ord lt) (l : List C) (hn : Nd lt key l) : viewGo key low tell none l = docGo key low tell [] l :=
  view_doc lt key low tell o l [] none (by simpa using hn) (by simp) (by simp)
/-- Keys that rise. -/
theorem view_rise (o : Ord lt) (h1 : ∀ c, (tell c).length ≤ 1) (h2 : ∀ c, ∀ p ∈ tell c, pk p = key c) : ∀ (l : List C) (st : Option K), Nd lt key l → (∀ k, st = some k → ∀ c ∈ l, lt (key c) k = false) →
    Srt pk lt (viewGo key low tell st l) ∧ ∀ p ∈ viewGo key low tell st l, ∀ k, st = some k → lt k (pk p) = true
  | [], st, _, _ => by simp [viewGo, Srt]
  | c :: l, st, hn, hs => by
    have hn' := List.pairwise_cons.1 hn
    simp only [viewGo]
    split
    · exact view_rise o h1 h2 l st hn'.2 (fun k hk d hd => hs k hk d (by simp [hd]))
    · rename_i hh
      obtain ⟨i1, i2⟩ := view_rise o h1 h2 l (some (key c)) hn'.2 (fun k hk d hd => by cases hk; exact hn'.1 d hd)
      have hc : ∀ k, st = some k → lt k (key c) = true := fun k hk => by
        rcases o.tri k (key c) with h | h | h
        · exact h
        · exact absurd (.inr (by rw [hk, h])) hh
        · rw [hs k hk c (by simp)] at h; cases h
      refine ⟨List.pairwise_append.2 ⟨?_, i1, fun a ha b hb => ?_⟩, fun p hp k hk => ?_⟩
      · have := h1 c
        match h : tell c with
        | [] => exact List.Pairwise.nil
        | [x] => exact List.pairwise_singleton _ _
        | x :: y :: r => rw [h] at this; simp at this
      · rw [h2 c a ha]; exact i2 b hb _ rfl
      · rcases List.mem_append.1 hp with hp | hp
        · rw [h2 c p hp]; exact hc k hk
        · exact o.trans _ _ _ (hc k hk) (i2 p hp _ rfl)
end

section
variable {P O K : Type} [DecidableEq K] (lt : K → K → Bool) (pk : P → K) (ok : O → K) (put : O → List P)

/-- Pairs behind a change. -/
def over1 (l : List P) (o : O) : List P := l.filter (fun p => lt (pk p) (ok o)) ++ (put o ++ l.filter (fun p => lt (ok o) (pk p)))
def overAll (l : List P) (ops : List O) : List P := ops.foldl (over1 lt pk ok put) l
theorem overAll_snoc (l : List P) (ops : List O) (o : O) : overAll lt pk ok put l (ops ++ [o]) = over1 lt pk ok put (overAll lt pk ok put l ops) o := by simp [overAll]
theorem srt_filter {l : List P} (h : Srt pk lt l) (f : P → Bool) : Srt pk lt (l.filter f) := List.Pairwise.sublist List.filter_sublist h
theorem mem_over1 (R : Ord lt) (hp : ∀ o, ∀ p ∈ put o, pk p = ok o) (l : List P) (o : O) (p : P) : p ∈ over1 lt pk ok put l o ↔ (if pk p = ok o then p ∈ put o else p ∈ l) := by
  unfold over1
  simp only [List.mem_append, List.mem_filter]
  by_cases h : pk p = ok o
  · rw [if_pos h]
    simp [h, R.irr]
  · rw [if_neg h]
    constructor
    · rintro (h1 | h1 | h1)
      · exact h1.1
      · exact absurd (hp o p h1) h
      · exact h1.1
    · intro h1
      rcases R.tri (pk p) (ok o) with h2 | h2 | h2
      · exact .inl ⟨h1, h2⟩
      · exact absurd h2 h
      · exact .inr (.inr ⟨h1, h2⟩)
theorem over1_srt (R : Ord lt) (hp : ∀ o, ∀ p ∈ put o, pk p = ok o) (hl : ∀ o, (put o).length ≤ 1) (l : List P) (o : O) (h : Srt pk lt l) : Srt pk lt (over1 lt pk ok put l o) := by
  have hput : Srt pk lt (put o) := by
    have := hl o
    match h : put o with
    | [] => exact List.Pairwise.nil
    | [x] => exact List.pairwise_singleton _ _
    | x :: y :: r => rw [h] at this; simp at this
  refine List.pairwise_append.2 ⟨srt_filter lt pk h _, List.pairwise_append.2 ⟨hput, srt_filter lt pk h _, fun a ha b hb => ?_⟩, fun a ha b hb => ?_⟩
  · rw [hp o a ha]; exact (List.mem_filter.1 hb).2
  · have ha := (List.mem_filter.1 ha).2
    rcases List.mem_append.1 hb with hb | hb
    · rw [hp o b hb]; exact ha
    · exact R.trans _ _ _ ha (List.mem_filter.1 hb).2
theorem overAll_srt (R : Ord lt) (hp : ∀ o, ∀ p ∈ put o, pk p = ok o) (hl : ∀ o, (put o).length ≤ 1) : ∀ (ops : List O) (l : List P), Srt pk lt l → Srt pk lt (overAll lt pk ok put l ops)
  | [], l, h => h
  | o :: ops, l, h => overAll_srt R hp hl ops _ (over1_srt lt pk ok put R hp hl l o h)
/-- The last change of a key. -/
def lastOp (k : K) : List O → Option O
  | [] => none
  | o :: ops => match lastOp k ops with
    | some x => some x
    | none => if ok o = k then some o else none
theorem mem_overAll (R : Ord lt) (hp : ∀ o, ∀ p ∈ put o, pk p = ok o) (p : P) : ∀ (ops : List O) (l : List P), p ∈ overAll lt pk ok put l ops ↔ match lastOp ok (pk p) ops with | none => p ∈ l | some o => p ∈ put o
  | [], l => by simp [overAll, lastOp]
  | o :: ops, l => by
    have ih := mem_overAll R hp p ops (over1 lt pk ok put l o)
    have e : overAll lt pk ok put l (o :: ops) = overAll lt pk ok put (over1 lt pk ok put l o) ops := rfl
    rw [e, ih]
    simp only [lastOp]
    cases h : lastOp ok (pk p) ops with
    | some x => simp
    | none =>
      simp only
      rw [mem_over1 lt pk ok put R hp]
      by_cases h2 : pk p = ok o
      · rw [if_pos h2, if_pos h2.symm]
      · rw [if_neg h2, if_neg (fun e => h2 e.symm)]
/-- The last change of each key, by key. -/
def last1 (o : O) (l : List O) : List O := if l.any (fun x => decide (ok x = ok o)) then l else l.filter (fun x => lt (ok x) (ok o)) ++ (o :: l.filter (fun x => lt (ok o) (ok x)))
def docLast (ops : List O) : List O := ops.foldr (last1 lt ok) []
theorem last1_srt (R : Ord lt) (o : O) (l : List O) (h : Srt ok lt l) : Srt ok lt (last1 lt ok o l) := by
  unfold last1
  split
  · exact h
  · refine List.pairwise_append.2 ⟨srt_filter lt ok h _, List.pairwise_cons.2 ⟨fun a ha => (List.mem_filter.1 ha).2, srt_filter lt ok h _⟩, fun a ha b hb => ?_⟩
    have ha := (List.mem_filter.1 ha).2
    rcases List.mem_cons.1 hb with rfl | hb
    · exact ha
    · exact R.trans _ _ _ ha (List.mem_filter.1 hb).2
theorem docLast_srt (R : Ord lt) : ∀ ops : List O, Srt ok lt (docLast lt ok ops)
  | [] => List.Pairwise.nil
  | o :: ops => last1_srt lt ok R o _ (docLast_srt R ops)
theorem lastOp_key (k : K) : ∀ (ops : List O) (o : O), lastOp ok k ops = some o → o ∈ ops ∧ ok o = k
  | [], _, h => by simp [lastOp] at h
  | x :: ops, o, h => by
    simp only [lastOp] at h
    cases h2 : lastOp ok k ops with
    | some y =>
      rw [h2] at h
      cases h
      obtain ⟨a, b⟩ := lastOp_key k ops _ h2
      exact ⟨by simp [a], b⟩
    | none =>
      rw [h2] at h
      simp only at h
      split at h
      · cases h; exact ⟨by simp, by assumption⟩
      · cases h
theorem lastOp_none (k : K) : ∀ (ops : List O), lastOp ok k ops = none ↔ ∀ o ∈ ops, ok o ≠ k
  | [] => by simp [lastOp]
  | x :: ops => by
    simp only [lastOp]
    have ih := lastOp_none k ops
    cases h2 : lastOp ok k ops with
    | some y =>
      obtain ⟨a, b⟩ := lastOp_key ok k ops _ h2
      simp only [reduceCtorEq, false_iff]
      intro h
      exact h y (by simp [a]) b
    | none =>
      have := ih.1 h2
      simp only
      by_cases h3 : ok x = k
      · rw [if_pos h3]
        simp only [reduceCtorEq, false_iff]
        intro h
        exact h x (by simp) h3
      · rw [if_neg h3]
        simp only [true_iff]
        intro o ho
        rcases List.mem_cons.1 ho with rfl | ho
        · exact h3
        · exact this o ho
theorem lastOp_srt (R : Ord lt) (l : List O) (h : Srt ok lt l) (o : O) (ho : o ∈ l) : lastOp ok (ok o) l = some o := by
  induction l with
  | nil => simp at ho
  | cons x l ih =>
    have h' := List.pairwise_cons.1 h
    simp only [lastOp]
    rcases List.mem_cons.1 ho with rfl | ho
    · have : lastOp ok (ok o) l = none := (lastOp_none ok _ l).2 (fun y hy e => by
        have := h'.1 y hy
        rw [e, R.irr] at this; cases this)
      rw [this]
      simp
    · rw [ih h'.2 ho]
theorem lastOp_docLast (R : Ord lt) (k : K) : ∀ ops : List O, lastOp ok k (docLast lt ok ops) = lastOp ok k ops
  | [] => rfl
  | o :: ops => by
    have ih := lastOp_docLast R k ops
    have hs := docLast_srt lt ok R ops
    have hs2 := docLast_srt lt ok R (o :: ops)
    have e : docLast lt ok (o :: ops) = last1 lt ok o (docLast lt ok ops) := rfl
    have hm : ∀ x, x ∈ last1 lt ok o (docLast lt ok ops) ↔ x ∈ docLast lt ok ops ∨ (x = o ∧ ∀ y ∈ docLast lt ok ops, ok y ≠ ok o) := by
      intro x
      unfold last1
      by_cases ha : (docLast lt ok ops).any (fun x => decide (ok x = ok o)) = true
      · rw [if_pos ha]
        constructor
        · exact .inl
        · rintro (h | ⟨_, h⟩)
          · exact h
          · obtain ⟨y, hy, hy2⟩ := List.any_eq_true.1 ha
            exact absurd (by simpa using hy2) (h y hy)
      · have hno : ∀ y ∈ docLast lt ok ops, ok y ≠ ok o := fun y hy e => ha (List.any_eq_true.2 ⟨y, hy, by simpa using e⟩)
        rw [if_neg ha]
        simp only [List.mem_append, List.mem_cons, List.mem_filter]
        constructor
        · rintro (h | h | h)
          · exact .inl h.1
          · exact .inr ⟨h, hno⟩
          · exact .inl h.1
        · rintro (h | ⟨h, _⟩)
          · rcases R.tri (ok x) (ok o) with t | t | t
            · exact .inl ⟨h, t⟩
            · exact absurd t (hno x h)
            · exact .inr (.inr ⟨h, t⟩)
          · exact .inr (.inl h)
    simp only [lastOp]
    cases h2 : lastOp ok k ops with
    | some y =>
      rw [h2] at ih
      obtain ⟨a, b⟩ := lastOp_key ok k _ _ ih
      rw [e]
      rw [e] at hs2
      have := lastOp_srt lt ok R _ hs2 y ((hm y).2 (.inl a))
      rw [b] at this
      rw [this]
    | none =>
      rw [h2] at ih
      have hno := (lastOp_none ok k _).1 ih
      simp only
      by_cases h3 : ok o = k
      · rw [if_pos h3, e]
        rw [e] at hs2
        have := lastOp_srt lt ok R _ hs2 o ((hm o).2 (.inr ⟨rfl, fun y hy => by rw [h3]; exact hno y hy⟩))
        rw [h3] at this
        rw [this]
      · rw [if_neg h3, e]
        refine (lastOp_none ok k _).2 (fun x hx => ?_)
        rcases (hm x).1 hx with h | ⟨rfl, _⟩
        · exact hno x h
        · exact h3
/-- Behind the last change of each key alone it is the same. -/
theorem over_last (R : Ord lt) [DecidableEq P] (hp : ∀ o, ∀ p ∈ put o, pk p = ok o) (hl : ∀ o, (put o).length ≤ 1) (l : List P) (h : Srt pk lt l) (ops : List O) :
    overAll lt pk ok put l (docLast lt ok ops) = overAll lt pk ok put l ops := by
  refine srt_ext pk lt R _ _ (overAll_srt lt pk ok put R hp hl _ l h) (overAll_srt lt pk ok put R hp hl _ l h) (fun p => ?_)
  rw [mem_overAll lt pk ok put R hp p, mem_overAll lt pk ok put R hp p, lastOp_docLast lt ok R]
/-- A place among pairs that rise. -/
theorem over1_at (R : Ord lt) (l : List P) (o : O) (h : Srt pk lt l) (i : Nat) (hi : i ≤ l.length) (h1 : ∀ p ∈ l.take i, lt (pk p) (ok o) = true) (b : Bool) (hb : b = true → ∃ p r, l.drop i = p :: r ∧ pk p = ok o) (hb2 : b = false → ∀ p r, l.drop i = p :: r → lt (ok o) (pk p) = true) :
    over1 lt pk ok put l o = l.take i ++ (put o ++ l.drop (if b then i + 1 else i)) := by
  have hs : Srt pk lt (l.take i ++ l.drop i) := by rw [List.take_append_drop]; exact h
  have hs2 := List.pairwise_append.1 hs
  have f1 : (l.take i).filter (fun p => lt (pk p) (ok o)) = l.take i := List.filter_eq_self.2 h1
  have f2 : (l.take i).filter (fun p => lt (ok o) (pk p)) = [] := List.filter_eq_nil_iff.2 (fun p hp => by rw [R.asym _ _ (h1 p hp)]; simp)
  have key : l.filter (fun p => lt (pk p) (ok o)) = l.take i ∧ l.filter (fun p => lt (ok o) (pk p)) = l.drop (if b then i + 1 else i) := by
    conv => lhs; lhs; rw [← List.take_append_drop i l]
    conv => rhs; lhs; rw [← List.take_append_drop i l]
    rw [List.filter_append, List.filter_append, f1, f2, List.nil_append]
    cases hd : l.drop i with
    | nil =>
      cases b with
      | true => obtain ⟨p, r, h3, _⟩ := hb rfl; rw [hd] at h3; cases h3
      | false => simp [hd]
    | cons p r =>
      have hs3 := hs2.2.1
      rw [hd] at hs3
      have hs4 := List.pairwise_cons.1 hs3
      have hdr : l.drop (i + 1) = r := by
        have : l.drop (i + 1) = (l.drop i).drop 1 := by simp
        rw [this, hd]; rfl
      cases b with
      | true =>
        obtain ⟨p', r', h3, h4⟩ := hb rfl
        rw [hd] at h3
        cases h3
        simp only [if_true]
        rw [hdr]
        refine ⟨?_, ?_⟩
        · rw [List.filter_eq_nil_iff.2, List.append_nil]
          intro q hq
          rcases List.mem_cons.1 hq with rfl | hq
          · rw [h4, R.irr]; simp
          · have := hs4.1 q hq
            rw [h4] at this
            rw [R.asym _ _ this]; simp
        · rw [List.filter_cons_of_neg (by rw [h4, R.irr]; simp)]
          exact List.filter_eq_self.2 (fun q hq => by have := hs4.1 q hq; rwa [h4] at this)
      | false =>
        have h3 := hb2 rfl p r hd
        simp only [Bool.false_eq_true, if_false]
        rw [hd]
        refine ⟨?_, ?_⟩
        · rw [List.filter_eq_nil_iff.2, List.append_nil]
          intro q hq
          rcases List.mem_cons.1 hq with rfl | hq
          · rw [R.asym _ _ h3]; simp
          · rw [R.asym _ _ (R.trans _ _ _ h3 (hs4.1 q hq))]; simp
        · refine List.filter_eq_self.2 (fun q hq => ?_)
          rcases List.mem_cons.1 hq with rfl | hq
          · exact h3
          · exact R.trans _ _ _ h3 (hs4.1 q hq)
  unfold over1
  rw [key.1, key.2]
/-- The document's step: pairs one by one. -/
def stepDone (o : O) (l : List P) : Bool := l.any (fun p => !lt (pk p) (ok o))
def stepOut (o : O) : Bool → List P → List P
  | _, [] => []
  | d, p :: l => cond (!d && !lt (pk p) (ok o)) (put o) [] ++ (cond (decide (pk p = ok o)) [] [p] ++ stepOut o (d || !lt (pk p) (ok o)) l)
theorem stepOut_snoc (o : O) (p : P) : ∀ (l : List P) (d : Bool), stepOut lt pk ok put o d (l ++ [p]) = stepOut lt pk ok put o d l ++ (cond (!(d || stepDone lt pk ok o l) && !lt (pk p) (ok o)) (put o) [] ++ cond (decide (pk p = ok o)) [] [p])
  | [], d => by simp [stepOut, stepDone]
  | q :: l, d => by
    have e : stepDone lt pk ok o (q :: l) = (!lt (pk q) (ok o) || stepDone lt pk ok o l) := rfl
    rw [e, ← Bool.or_assoc]
    simp only [List.cons_append, stepOut, List.append_assoc]
    rw [stepOut_snoc o p l]
theorem stepDone_snoc (o : O) (p : P) (l : List P) : stepDone lt pk ok o (l ++ [p]) = (stepDone lt pk ok o l || !lt (pk p) (ok o)) := by simp [stepDone]
theorem step_true (R : Ord lt) (o : O) : ∀ l : List P, (∀ p ∈ l, lt (ok o) (pk p) = true) → stepOut lt pk ok put o true l = l
  | [], _ => rfl
  | p :: l, h => by
    have hp := h p (by simp)
    have hne : decide (pk p = ok o) = false := by simpa using fun e => by rw [e, R.irr] at hp; cases hp
    have ih := step_true R o l (fun q hq => h q (by simp [hq]))
    unfold stepOut
    rw [hne, Bool.true_or, ih]
    simp
theorem step_is_over (R : Ord lt) (o : O) : ∀ l : List P, Srt pk lt l → stepOut lt pk ok put o false l ++ cond (stepDone lt pk ok o l) [] (put o) = over1 lt pk ok put l o
  | [], _ => by simp [stepOut, stepDone, over1]
  | p :: l, h => by
    have h' := List.pairwise_cons.1 h
    have es : stepDone lt pk ok o (p :: l) = (!lt (pk p) (ok o) || stepDone lt pk ok o l) := rfl
    rcases R.tri (pk p) (ok o) with t | t | t
    · have hne : decide (pk p = ok o) = false := by simpa using fun e => by rw [e, R.irr] at t; cases t
      have ih := step_is_over R o l h'.2
      rw [es, t]
      unfold stepOut
      rw [t, hne]
      simp only [Bool.not_true, Bool.and_false, Bool.false_or, cond_false, List.nil_append, List.append_assoc]
      rw [ih]
      unfold over1
      rw [List.filter_cons_of_pos (by exact t), List.filter_cons_of_neg (by rw [R.asym _ _ t]; simp)]
      rfl
    · have hall : ∀ q ∈ l, lt (ok o) (pk q) = true := fun q hq => by rw [← t]; exact h'.1 q hq
      have e1 : lt (pk p) (ok o) = false := by rw [t]; exact R.irr _
      have hne : decide (pk p = ok o) = true := by simpa using t
      rw [es, e1]
      unfold stepOut
      rw [e1, hne]
      simp only [Bool.not_false, Bool.and_true, Bool.false_or, Bool.true_or, cond_true, List.nil_append, List.append_nil]
      rw [step_true lt pk ok put R o l hall]
      unfold over1
      rw [List.filter_cons_of_neg (by rw [e1]; simp), List.filter_cons_of_neg (by rw [t, R.irr]; simp)]
      rw [List.filter_eq_nil_iff.2 (fun q hq => by rw [R.asym _ _ (hall q hq)]; simp), List.filter_eq_self.2 hall]
      simp
    · have hne : decide (pk p = ok o) = false := by simpa using fun e => by rw [e, R.irr] at t; cases t
      have e1 : lt (pk p) (ok o) = false := R.asym _ _ t
      have hall : ∀ q ∈ l, lt (ok o) (pk q) = true := fun q hq => R.trans _ _ _ t (h'.1 q hq)
      rw [es, e1]
      unfold stepOut
      rw [e1, hne]
      simp only [Bool.not_false, Bool.and_true, Bool.false_or, Bool.true_or, cond_true, cond_false, List.append_nil]
      rw [step_true lt pk ok put R o l hall]
      unfold over1
      rw [List.filter_cons_of_neg (by rw [e1]; simp), List.filter_cons_of_pos (by exact t)]
      rw [List.filter_eq_nil_iff.2 (fun q hq => by rw [R.asym _ _ (hall q hq)]; simp), List.filter_eq_self.2 hall]
      simp
/-- The document's place among changes. -/
theorem last1_at (R : Ord lt) (o : O) (l : List O) (h : Srt ok lt l) (i : Nat) (hi : i ≤ l.length) (h1 : ∀ x ∈ l.take i, lt (ok o) (ok x) = false) (h2 : ∀ x r, l.drop i = x :: r → lt (ok o) (ok x) = true) :
    last1 lt ok o l = if (l.take i).any (fun x => decide (ok x = ok o)) then l else l.take i ++ (o :: l.drop i) := by
  have hs : Srt ok lt (l.take i ++ l.drop i) := by rw [List.take_append_drop]; exact h
  have hs2 := List.pairwise_append.1 hs
  have hd : ∀ x ∈ l.drop i, lt (ok o) (ok x) = true := by
    intro x hx
    cases he : l.drop i with
    | nil => rw [he] at hx; simp at hx
    | cons y r =>
      have h3 := h2 y r he
      rw [he] at hx
      rcases List.mem_cons.1 hx with rfl | hx
      · exact h3
      · have := hs2.2.1
        rw [he] at this
        exact R.trans _ _ _ h3 ((List.pairwise_cons.1 this).1 x hx)
  have hany : l.any (fun x => decide (ok x = ok o)) = (l.take i).any (fun x => decide (ok x = ok o)) := by
    conv => lhs; rw [← List.take_append_drop i l]
    rw [List.any_append]
    have : (l.drop i).any (fun x => decide (ok x = ok o)) = false := List.any_eq_false.2 (fun x hx => by
      have := hd x hx
      intro e
      rw [of_decide_eq_true e, R.irr] at this; cases this)
    rw [this, Bool.or_false]
  unfold last1
  rw [hany]
  split
  · rfl
  · rename_i hno
    have hlt : ∀ x ∈ l.take i, lt (ok x) (ok o) = true := by
      intro x hx
      rcases R.tri (ok x) (ok o) with t | t | t
      · exact t
      · exact absurd (List.any_eq_true.2 ⟨x, hx, by simpa using t⟩) hno
      · rw [h1 x hx] at t; cases t
    have e1 : l.filter (fun x => lt (ok x) (ok o)) = l.take i := by
      conv => lhs; rw [← List.take_append_drop i l]
      rw [List.filter_append, List.filter_eq_self.2 hlt, List.filter_eq_nil_iff.2 (fun x hx => by rw [R.asym _ _ (hd x hx)]; simp), List.append_nil]
    have e2 : l.filter (fun x => lt (ok o) (ok x)) = l.drop i := by
      conv => lhs; rw [← List.take_append_drop i l]
      rw [List.filter_append, List.filter_eq_self.2 hd, List.filter_eq_nil_iff.2 (fun x hx => by rw [R.asym _ _ (hlt x hx)]; simp), List.nil_append]
    rw [e1, e2]
/-- Cells in their order, one put among them. -/
theorem srt_place {C V : Type} (ver : C → V) (ltv : V → V → Bool) (R : Ord ltv) (l : List C) (c : C) (h : Srt ver ltv l) (i : Nat) (h1 : ∀ x ∈ l.take i, ltv (ver x) (ver c) = true) (h2 : ∀ x r, l.drop i = x :: r → ltv (ver c) (ver x) = true) :
    Srt ver ltv (l.take i ++ (c :: l.drop i)) := by
  have hs : Srt ver ltv (l.take i ++ l.drop i) := by rw [List.take_append_drop]; exact h
  have hs2 := List.pairwise_append.1 hs
  have hd : ∀ x ∈ l.drop i, ltv (ver c) (ver x) = true := by
    intro x hx
    cases he : l.drop i with
    | nil => rw [he] at hx; simp at hx
    | cons y r =>
      have h3 := h2 y r he
      rw [he] at hx
      rcases List.mem_cons.1 hx with rfl | hx
      · exact h3
      · have := hs2.2.1
        rw [he] at this
        exact R.trans _ _ _ h3 ((List.pairwise_cons.1 this).1 x hx)
  exact List.pairwise_append.2 ⟨hs2.1, List.pairwise_cons.2 ⟨hd, hs2.2.1⟩, fun a ha b hb => by
    rcases List.mem_cons.1 hb with rfl | hb
    · exact h1 a ha
    · exact hs2.2.2 a ha b hb⟩
end
end Go.Proofs.Ytcgkpgjjifggcaa.Pl
