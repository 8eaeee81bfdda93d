/-
  Merge: cells, lists of cells, numbers that came in, opened.
-/
import Derived.Test.YtcgkpgjjifggcaaN25
import Derived.Deep.Slices
import Derived.Deep.Fields
import Derived.ChangeSame
namespace Go.Proofs.Ytcgkpgjjifggcaa
set_option linter.unusedVariables false
set_option linter.unusedSimpArgs false
open Go.RowKit Sl Go.ChangeShapes Go.WideShapes Go.Deep

theorem Try.one42 : Try.prog.cellsOf 42 = 4 := by kernel_rfl
theorem Try.one40 : Try.prog.cellsOf 40 = 3 := by kernel_rfl
theorem Try.one22 : Try.prog.cellsOf 22 = 1 := by kernel_rfl
theorem Try.one3 : Try.prog.cellsOf 3 = 1 := by kernel_rfl
theorem Try.one9 : Try.prog.cellsOf 9 = 1 := by kernel_rfl
theorem Try.one68 : Try.prog.cellsOf 68 = 3 := by kernel_rfl
instance : Inhabited CellR := ⟨noCell⟩
instance : Inhabited OpR := ⟨⟨0, ⟨#[]⟩, ⟨#[]⟩⟩⟩
section
variable {H : Type} {enc : TypeId × Value → H} {w : World}
theorem open_ver {n : Nat} {cs : List Value} {x : DataW H × List MemPlace} (h : DataW.trod enc Try.prog w 0 (fun _ => true) true n 40 cs = some x) : ∃ o : VerR, cs = [.string o.key, .int .i64 o.seq, .int .i64 o.kind] := by
  obtain ⟨ys, n', hn', hy, hlen, hyl, hf⟩ := DataW.trod_struct Try.underlying40 h
  have hsz : cs.length = 3 := by simpa [Try.one40] using hlen
  match ys, hyl with
  | [y0, y1, y2], _ =>
    match cs, hsz with
    | [a, b, c], _ =>
      have h0 := hf 0 _ rfl
      have h1 := hf 1 _ rfl
      have h2 := hf 2 _ rfl
      simp [Try.one3, Try.one9] at h0 h1 h2
      obtain ⟨s, hs, _⟩ := DataW.trod_string Try.underlying9 h0
      obtain ⟨k, hk, _⟩ := DataW.trod_int Try.underlying3 h1
      obtain ⟨q, hq, _⟩ := DataW.trod_int Try.underlying3 h2
      simp at hk hs hq
      subst hk hs hq
      exact ⟨⟨s, k, q⟩, rfl⟩
theorem open_cell {n : Nat} {cs : List Value} {x : DataW H × List MemPlace} (h : DataW.trod enc Try.prog w 0 (fun _ => true) true n 42 cs = some x) : ∃ o : CellR, cs = o.cells := by
  obtain ⟨ys, n', hn', hy, hlen, hyl, hf⟩ := DataW.trod_struct Try.underlying42 h
  have hsz : cs.length = 4 := by simpa [Try.one42] using hlen
  match ys, hyl with
  | [y0, y1], _ =>
    match cs, hsz with
    | [a, b, c, d], _ =>
      have h0 := hf 0 _ rfl
      have h1 := hf 1 _ rfl
      simp [Try.one40, Try.one9] at h0 h1
      obtain ⟨v, hv⟩ := open_ver h0
      obtain ⟨s, hs, _⟩ := DataW.trod_string Try.underlying9 h1
      simp at hv hs
      obtain ⟨rfl, rfl, rfl⟩ := hv
      subst hs
      exact ⟨⟨v, s⟩, rfl⟩
theorem open_op {n : Nat} {cs : List Value} {x : DataW H × List MemPlace} (h : DataW.trod enc Try.prog w 0 (fun _ => true) true n 68 cs = some x) : ∃ o : OpR, cs = o.cells := by
  obtain ⟨ys, n', hn', hy, hlen, hyl, hf⟩ := DataW.trod_struct Try.underlying68 h
  have hsz : cs.length = 3 := by simpa [Try.one68] using hlen
  match ys, hyl with
  | [y0, y1, y2], _ =>
    match cs, hsz with
    | [a, b, c], _ =>
      have h0 := hf 0 _ rfl
      have h1 := hf 1 _ rfl
      have h2 := hf 2 _ rfl
      simp [Try.one3, Try.one9] at h0 h1 h2
      obtain ⟨k, hk, _⟩ := DataW.trod_int Try.underlying3 h0
      obtain ⟨s, hs, _⟩ := DataW.trod_string Try.underlying9 h1
      obtain ⟨v, hv, _⟩ := DataW.trod_string Try.underlying9 h2
      simp at hk hs hv
      subst hk hs hv
      exact ⟨⟨k, s, v⟩, rfl⟩
/-- A slice of structs. -/
theorem open_sl {α : Type} [Inhabited α] (enc' : α → List Value) (size t e : Nat) (he : ∀ a, (enc' a).length = size) (hsz : 0 < size) (ht : Try.prog.underlying t = some (.slice e)) (hone : Try.prog.cellsOf e = size)
    (ho : ∀ {n : Nat} {cs : List Value} {x : DataW H × List MemPlace}, DataW.trod enc Try.prog w 0 (fun _ => true) true n e cs = some x → ∃ o : α, cs = enc' o)
    {n : Nat} {v : Value} {x : DataW H × List MemPlace} (h : DataW.trod enc Try.prog w 0 (fun _ => true) true n t [v] = some x) : ∃ l, SlV enc' w (fun _ => False) v l := by
  rcases open_slice ht h with ⟨h0, _⟩ | ⟨a, len, cap, m, n', D, Pl, hcs, hb, hl, hm, hmm, hx, hi⟩
  · simp at h0
    exact ⟨[], none, 0, h0, Nat.le_refl _, by decide, .inl rfl⟩
  · simp at hcs
    subst hcs
    simp only [if_true] at hmm
    rw [hone] at hi
    obtain ⟨f, hf⟩ := choose_lt (α := α) (n := len) (p := fun i o => w.cells? 0 (a.add (i * size)) size = some (enc' o)) (fun i hil => by
      obtain ⟨cs', h1, h2⟩ := hi i (by omega)
      obtain ⟨o, rfl⟩ := ho h2
      exact ⟨o, h1⟩)
    refine ⟨(List.range len).map f, some a, cap, by simp, by simpa using hl, by unfold maxLen at hm ⊢; omega, ?_⟩
    by_cases hl0 : len = 0
    · subst hl0; exact .inl rfl
    · right
      have hat : ∀ i, i < len → ∀ j (hj : j < size), w.cell? (a.add (i * size + j)) = (enc' (f i))[j]? := fun i hil j hj => by
        obtain ⟨_, _, hat⟩ := World.cells?_some (hf i hil)
        rw [← add_add]; exact hat j hj
      have hsome : ∀ i, ∃ u, (enc' (f i))[0]? = some u := fun i => ⟨(enc' (f i))[0]'(by rw [he]; exact hsz), by simp⟩
      obtain ⟨b, off, spot⟩ := a
      have hspot : spot = none := by
        obtain ⟨u, hu⟩ := hsome 0
        have h0 := hat 0 (by omega) 0 hsz
        rw [hu] at h0
        simpa [Addr.add] using World.cell?_spot h0
      subst hspot
      refine ⟨b, off, rfl, fun h => h, ?_, fun j u hj => ?_⟩
      · obtain ⟨u, hu⟩ := hsome 0
        have h0 := hat 0 (by omega) 0 hsz
        rw [hu, Addr.add_lit] at h0
        exact cell_lt h0
      · have hjl : j < len * size := by
          have := (List.getElem?_eq_some_iff.1 hj).1
          rw [flat_len enc' size he] at this
          simpa using this
        have hk : j / size < len := Nat.div_lt_of_lt_mul (by rw [Nat.mul_comm]; exact hjl)
        have hr : j % size < size := Nat.mod_lt _ hsz
        have e1 : j = j / size * size + j % size := by rw [Nat.mul_comm]; exact (Nat.div_add_mod j size).symm
        have h1 := hat (j / size) hk (j % size) hr
        have h2 := flat_get enc' size he ((List.range len).map f) (j / size) (by simpa using hk) (j % size) hr
        rw [← e1, hj] at h2
        simp only [List.getElem_map, List.getElem_range] at h2
        rw [← e1, ← h2, Addr.add_lit] at h1
        exact h1
theorem open_cv {n : Nat} {v : Value} {x : DataW H × List MemPlace} (h : DataW.trod enc Try.prog w 0 (fun _ => true) true n 22 [v] = some x) : ∃ l, CV w (fun _ => False) v l :=
  open_sl CellR.cells 4 22 42 CellR.cells_len (by decide) Try.underlying22 Try.one42 (fun h => open_cell h) h
theorem open_ops {n : Nat} {v : Value} {x : DataW H × List MemPlace} (h : DataW.trod enc Try.prog w 0 (fun _ => true) true n 51 [v] = some x) : ∃ l, SlV OpR.cells w (fun _ => False) v l :=
  open_sl OpR.cells 3 51 68 OpR.cells_len (by decide) Try.underlying51 Try.one68 (fun h => open_op h) h
theorem open_nums {n : Nat} {v : Value} {x : DataW H × List MemPlace} (h : DataW.trod enc Try.prog w 0 (fun _ => true) true n 23 [v] = some x) : ∃ l, SlV intE w (fun _ => False) v l :=
  open_sl intE 1 23 3 (fun _ => rfl) (by decide) Try.underlying23 Try.one3 (fun {n cs x} h => by
    obtain ⟨k, hk, _⟩ := DataW.trod_int Try.underlying3 h
    exact ⟨k, hk⟩) h
/-- A slice of slices of cells. -/
theorem open_lv {n : Nat} {v : Value} {x : DataW H × List MemPlace} (h : DataW.trod enc Try.prog w 0 (fun _ => true) true n 25 [v] = some x) : ∃ L, LV w (fun _ => False) v L := by
  rcases open_slice1 Try.underlying25 Try.one22 h with ⟨h0, _⟩ | ⟨a, len, cap, m, n', V, D, Pl, hcs, hb, hl, hm, hmm, hx, hi⟩
  · simp at h0
    exact ⟨[], [], rfl, ⟨none, 0, h0, Nat.le_refl _, by decide, .inl rfl⟩, fun k x l h _ => by simp at h⟩
  · simp at hcs
    subst hcs
    simp only [if_true] at hmm
    obtain ⟨f, hf⟩ := choose_lt (α := List CellR) (n := len) (p := fun i l => CV w (fun _ => False) (V i) l) (fun i hil => open_cv (hi i (by omega)).2)
    refine ⟨(List.range len).map f, (List.range len).map V, by simp, ⟨some a, cap, by simp, by simpa using hl, by unfold maxLen at hm ⊢; omega, ?_⟩, fun k x l h1 h2 => ?_⟩
    · by_cases hl0 : len = 0
      · subst hl0; exact .inl rfl
      · right
        obtain ⟨b, off, spot⟩ := a
        have hspot : spot = none := by simpa [Addr.add] using World.cell?_spot (hi 0 (by omega)).1
        subst hspot
        refine ⟨b, off, rfl, fun h => h, ?_, fun j u hj => ?_⟩
        · have := (hi 0 (by omega)).1
          rw [Addr.add_lit] at this
          exact cell_lt this
        · rw [flat_id] at hj
          obtain ⟨hjl, rfl⟩ := List.getElem?_eq_some_iff.1 hj
          have := (hi j (by simp at hjl; omega)).1
          rw [Addr.add_lit] at this
          simpa using this
    · obtain ⟨hk, rfl⟩ := List.getElem?_eq_some_iff.1 h1
      obtain ⟨hk2, rfl⟩ := List.getElem?_eq_some_iff.1 h2
      simp only [List.getElem_map, List.getElem_range]
      exact hf k (by simpa using hk)
end
end Go.Proofs.Ytcgkpgjjifggcaa
