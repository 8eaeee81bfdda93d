/-
  Merge: slices of cells, of pairs, of changes in memory, by their rows of values.
-/
import Derived.Test.YtcgkpgjjifggcaaN9
import Derived.Test.YtcgkpgjjifggcaaG3
namespace Go.Proofs.Ytcgkpgjjifggcaa
set_option linter.unusedVariables false
set_option linter.unusedSimpArgs false
open Go.RowKit Sl

section
variable {α : Type} (enc : α → List Value) (size : Nat)
def flat (l : List α) : List Value := l.flatMap enc
theorem flat_nil : flat enc [] = [] := rfl
theorem flat_cons (a : α) (l : List α) : flat enc (a :: l) = enc a ++ flat enc l := rfl
theorem flat_app (a b : List α) : flat enc (a ++ b) = flat enc a ++ flat enc b := by simp [flat]
theorem flat_snoc (l : List α) (a : α) : flat enc (l ++ [a]) = flat enc l ++ enc a := by simp [flat]
theorem flat_len (h : ∀ a, (enc a).length = size) (l : List α) : (flat enc l).length = l.length * size := by
  induction l with
  | nil => simp [flat]
  | cons a l ih => rw [flat_cons, List.length_append, ih, h]; simp [Nat.add_mul, Nat.add_comm]
theorem flat_get (h : ∀ a, (enc a).length = size) (l : List α) : ∀ (k : Nat) (hk : k < l.length) (t : Nat), t < size → (flat enc l)[k * size + t]? = (enc l[k])[t]? := by
  induction l with
  | nil => intro k hk; simp at hk
  | cons a l ih =>
    intro k hk t ht
    cases k with
    | zero =>
      rw [flat_cons, Nat.zero_mul, Nat.zero_add, List.getElem?_append_left (by rw [h]; exact ht)]
      rfl
    | succ k =>
      have e : (k + 1) * size + t - (enc a).length = k * size + t := by rw [h, Nat.succ_mul]; omega
      rw [flat_cons, List.getElem?_append_right (by rw [h, Nat.succ_mul]; omega), e]
      exact ih k (by simpa using hk) t ht
theorem flat_one (h1 : ∀ a, ∀ u ∈ enc a, u.oneCell' = true) (l : List α) : ∀ u ∈ flat enc l, u.oneCell' = true := by
  intro u hu
  obtain ⟨a, _, hu⟩ := List.mem_flatMap.1 hu
  exact h1 a u hu

/-- A slice value with these elements; its block isn't of S. -/
def SlV (w : World) (S : Nat → Prop) (v : Value) (l : List α) : Prop :=
  ∃ ao cap, v = .slice ao l.length cap ∧ l.length ≤ cap ∧ cap ≤ maxLen ∧ (l = [] ∨ ∃ b o, ao = some ⟨b, o, none⟩ ∧ ¬ S b ∧ b < w.heap.size ∧ ∀ j u, (flat enc l)[j]? = some u → w.cell? ⟨b, o + j, none⟩ = some u)
variable {enc}
theorem SlV.later {S : Nat → Prop} {w w' : World} {v : Value} {l : List α} (h : SlV enc w S v l) (hs : w.heap.size ≤ w'.heap.size) (hb : ∀ g, g < w.heap.size → ¬ S g → w'.heap[g]? = w.heap[g]?) : SlV enc w' S v l := by
  obtain ⟨ao, cap, h1, h2, h3, h4⟩ := h
  refine ⟨ao, cap, h1, h2, h3, ?_⟩
  rcases h4 with h4 | ⟨b, o, h5, h6, h7, h8⟩
  · exact .inl h4
  · exact .inr ⟨b, o, h5, h6, Nat.lt_of_lt_of_le h7 hs, fun j u hj => by rw [World.cell?_of_block (w := w) (by exact hb b h7 h6)]; exact h8 j u hj⟩
theorem SlV.mod {S : Nat → Prop} {w w' : World} {v : Value} {l : List α} (h : SlV enc w S v l) (hm : Mod S w w') : SlV enc w' S v l := h.later hm.size hm.block
theorem SlV.below {S : Nat → Prop} {w w' : World} {v : Value} {l : List α} (h : SlV enc w S v l) (hb : Below w.heap.size w w') : SlV enc w' S v l := h.later hb.size (fun g hg _ => hb.block g hg)
theorem SlV.mono {S T : Nat → Prop} {w : World} {v : Value} {l : List α} (h : SlV enc w S v l) (hT : ∀ k, T k → S k) : SlV enc w T v l := by
  obtain ⟨ao, cap, h1, h2, h3, h4⟩ := h
  refine ⟨ao, cap, h1, h2, h3, ?_⟩
  rcases h4 with h4 | ⟨b, o, h5, h6, h7, h8⟩
  · exact .inl h4
  · exact .inr ⟨b, o, h5, fun ht => h6 (hT b ht), h7, h8⟩
theorem SlV.at {size : Nat} (he : ∀ a, (enc a).length = size) {S : Nat → Prop} {w : World} {v : Value} {l : List α} (h : SlV enc w S v l) (hne : l ≠ []) :
    ∃ b o cap, v = .slice (some ⟨b, o, none⟩) l.length cap ∧ l.length ≤ cap ∧ cap ≤ maxLen ∧ ¬ S b ∧ b < w.heap.size ∧ ∀ k (hk : k < l.length) t u, t < size → (enc l[k])[t]? = some u → w.cell? ⟨b, o + k * size + t, none⟩ = some u := by
  obtain ⟨ao, cap, rfl, h2, h3, h4⟩ := h
  rcases h4 with h4 | ⟨b, o, rfl, h6, h7, h8⟩
  · exact absurd h4 hne
  · refine ⟨b, o, cap, rfl, h2, h3, h6, h7, fun k hk t u ht hu => ?_⟩
    rw [Nat.add_assoc]
    exact h8 _ u (by rw [flat_get enc size he l k hk t ht]; exact hu)
theorem SlV.of_has {size : Nat} {w : World} {base : Nat} {v : Value} {l : List α} (h : Has w base size v l.length (flat enc l)) : SlV enc w (fun k => k < base) v l := by
  rcases h.2 with ⟨rfl, hn⟩ | ⟨g, off, cap, rfl, hB, hg, hle, hm, hc, hf⟩
  · exact ⟨none, 0, by rw [hn], by omega, by unfold maxLen; omega, .inl (List.length_eq_zero_iff.1 hn)⟩
  · exact ⟨_, cap, rfl, hle, hm, .inr ⟨g, off, rfl, by omega, hg, hc⟩⟩
theorem SlV.sub {size : Nat} (he : ∀ a, (enc a).length = size) {S : Nat → Prop} {w : World} {b o n cap : Nat} {l : List α} (h : SlV enc w S (.slice (some ⟨b, o, none⟩) l.length cap) l) (i j : Nat) (hij : i ≤ j) (hj : j ≤ l.length) (c : Nat) (hc : j - i ≤ c) (hc2 : c ≤ maxLen) :
    SlV enc w S (.slice (some ⟨b, o + i * size, none⟩) (j - i) c) ((l.take j).drop i) := by
  have hl : ((l.take j).drop i).length = j - i := by simp; omega
  obtain ⟨ao, cap, h1, h2, h3, h4⟩ := h
  refine ⟨_, c, by rw [hl], by rw [hl]; exact hc, hc2, ?_⟩
  rcases h4 with h4 | ⟨b', o', h5, h6, h7, h8⟩
  · subst h4; simp
  · simp only [Value.slice.injEq] at h1
    rw [← h1.1] at h5
    cases h5
    refine .inr ⟨b, o + i * size, rfl, h6, h7, fun t u hu => ?_⟩
    have e1 : l = l.take i ++ ((l.take j).drop i ++ l.drop j) := by
      conv => lhs; rw [← List.take_append_drop j l]
      rw [← List.append_assoc]
      congr 1
      conv => lhs; rw [← List.take_append_drop i (l.take j)]
      rw [List.take_take, Nat.min_eq_left hij]
    have e2 : (flat enc l)[i * size + t]? = some u := by
      rw [e1, flat_app, List.getElem?_append_right (by rw [flat_len enc size he, List.length_take, Nat.min_eq_left (by omega)]; omega), flat_len enc size he, List.length_take, Nat.min_eq_left (by omega), flat_app,
        List.getElem?_append_left (by rw [show i * size + t - i * size = t by omega]; exact (List.getElem?_eq_some_iff.1 hu).1), show i * size + t - i * size = t by omega]
      exact hu
    rw [Nat.add_assoc]
    exact h8 _ u e2
end

theorem CellR.cells_len (c : CellR) : c.cells.length = 4 := rfl
theorem CellR.cells_one (c : CellR) : ∀ u ∈ c.cells, u.oneCell' = true := by
  intro u hu
  simp only [CellR.cells, List.mem_cons, List.not_mem_nil, or_false] at hu
  rcases hu with rfl | rfl | rfl | rfl <;> rfl
/-- A slice of cells. -/
abbrev CV (w : World) (S : Nat → Prop) (v : Value) (l : List CellR) : Prop := SlV CellR.cells w S v l
theorem cellsAt_of {w : World} {g o : Nat} {l : List CellR} (hg : g < w.heap.size) (h : ∀ j u, (flat CellR.cells l)[j]? = some u → w.cell? ⟨g, o + j, none⟩ = some u) : CellsAt w g o l :=
  ⟨hg, fun k hk => by
    have q : ∀ t u, t < 4 → (l[k]).cells[t]? = some u → w.cell? ⟨g, o + k * 4 + t, none⟩ = some u := fun t u ht hu => by
      rw [Nat.add_assoc]; exact h _ u (by rw [flat_get CellR.cells 4 CellR.cells_len l k hk t ht]; exact hu)
    exact ⟨q 0 _ (by decide) rfl, q 1 _ (by decide) rfl, q 2 _ (by decide) rfl, q 3 _ (by decide) rfl⟩⟩
theorem CV.run {w : World} {S : Nat → Prop} {v : Value} {l : List CellR} (h : CV w S v l) : RunV w S v l := by
  obtain ⟨ao, cap, h1, h2, h3, h4⟩ := h
  refine ⟨ao, cap, h1, h2, h3, ?_⟩
  rcases h4 with h4 | ⟨b, o, h5, h6, h7, h8⟩
  · exact .inl h4
  · exact .inr ⟨b, o, h5, h6, cellsAt_of h7 h8⟩
/-- Its k-th cell. -/
theorem CV.cell {w : World} {S : Nat → Prop} {v : Value} {l : List CellR} (h : CV w S v l) (hne : l ≠ []) :
    ∃ b o cap, v = .slice (some ⟨b, o, none⟩) l.length cap ∧ l.length ≤ cap ∧ cap ≤ maxLen ∧ ¬ S b ∧ b < w.heap.size ∧ ∀ k (hk : k < l.length),
      w.cell? ⟨b, o + k * 4, none⟩ = some (.string l[k].ver.key) ∧ w.cell? ⟨b, o + k * 4 + 1, none⟩ = some (.int .i64 l[k].ver.seq) ∧ w.cell? ⟨b, o + k * 4 + 2, none⟩ = some (.int .i64 l[k].ver.kind) ∧ w.cell? ⟨b, o + k * 4 + 3, none⟩ = some (.string l[k].val) := by
  obtain ⟨b, o, cap, h1, h2, h3, h4, h5, h6⟩ := SlV.at CellR.cells_len h hne
  exact ⟨b, o, cap, h1, h2, h3, h4, h5, fun k hk => ⟨h6 k hk 0 _ (by decide) rfl, h6 k hk 1 _ (by decide) rfl, h6 k hk 2 _ (by decide) rfl, h6 k hk 3 _ (by decide) rfl⟩⟩
theorem SlV.len {α : Type} {enc : α → List Value} {w : World} {S : Nat → Prop} {ao : Option Addr} {n cap : Nat} {l : List α} (h : SlV enc w S (.slice ao n cap) l) : l.length = n ∧ n ≤ cap ∧ cap ≤ maxLen := by
  obtain ⟨ao', cap', h1, h2, h3, _⟩ := h
  simp only [Value.slice.injEq] at h1
  obtain ⟨_, rfl, rfl⟩ := h1
  exact ⟨rfl, h2, h3⟩
theorem SlV.shape {α : Type} {enc : α → List Value} {w : World} {S : Nat → Prop} {v : Value} {l : List α} (h : SlV enc w S v l) : ∃ ao cap, v = .slice ao l.length cap := by
  obtain ⟨ao', cap', h1, h2, h3, _⟩ := h
  exact ⟨_, _, h1⟩
theorem CV.of {w : World} {S : Nat → Prop} {ao : Option Addr} {n cap : Nat} {l : List CellR} (h : CV w S (.slice ao n cap) l) (hne : 0 < n) :
    ∃ b o, ao = some ⟨b, o, none⟩ ∧ ¬ S b ∧ b < w.heap.size ∧ ∀ k c, l[k]? = some c →
      w.cell? ⟨b, o + k * 4, none⟩ = some (.string c.ver.key) ∧ w.cell? ⟨b, o + k * 4 + 1, none⟩ = some (.int .i64 c.ver.seq) ∧ w.cell? ⟨b, o + k * 4 + 2, none⟩ = some (.int .i64 c.ver.kind) ∧ w.cell? ⟨b, o + k * 4 + 3, none⟩ = some (.string c.val) := by
  have hl := (SlV.len h).1
  obtain ⟨b, o, cap', h1, h2, h3, h4, h5, h6⟩ := CV.cell h (fun e => by rw [e] at hl; simp at hl; omega)
  simp only [Value.slice.injEq] at h1
  refine ⟨b, o, h1.1, h4, h5, fun k c hk => ?_⟩
  obtain ⟨hk2, rfl⟩ := List.getElem?_eq_some_iff.1 hk
  exact h6 k hk2
theorem get_of {α : Type} {l : List α} {k : Nat} (h : k < l.length) : ∃ c, l[k]? = some c := ⟨l[k], by simp [h]⟩
end Go.Proofs.Ytcgkpgjjifggcaa
