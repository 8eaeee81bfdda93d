/-
  Records: rows of changes that came in, opened.
-/
import Derived.Test.YtcgbellmclhlpaaR22
import Derived.Deep.Slices
import Derived.Deep.Fields
import Derived.ChangeSame
namespace Go.Proofs.Ytcgbellmclhlpaa
set_option linter.unusedVariables false
set_option linter.unusedSimpArgs false
open Go.RowKit Vi Sl Go.ChangeShapes Go.WideShapes Go.Deep

theorem cell_lt {w : World} {g o : Nat} {v : Value} (h : w.cell? ⟨g, o, none⟩ = some v) : g < w.heap.size := by
  by_cases hg : g < w.heap.size
  · exact hg
  · have h2 : w.heap[g]? = none := by simp [hg]
    simp [World.cell?, h2] at h
theorem Try.one43 : Try.prog.cellsOf 43 = 3 := by kernel_rfl
theorem Try.one31 : Try.prog.cellsOf 31 = 1 := by kernel_rfl
instance : Inhabited OpR := ⟨⟨0, ⟨#[]⟩, ⟨#[]⟩⟩⟩
section
variable {H : Type} {enc : TypeId × Value → H} {w : World}
/-- A change among others. -/
theorem open_op {n : Nat} {cs : List Value} {x : DataW H × List MemPlace} (h : DataW.trod enc Try.prog w 0 (fun _ => true) true n 43 cs = some x) : ∃ o : OpR, cs = o.cells := by
  obtain ⟨ys, n', hn', hy, hlen, hyl, hf⟩ := DataW.trod_struct Try.underlying43 h
  have c3 : Try.prog.cellsOf 3 = 1 := by kernel_rfl
  have c9 : Try.prog.cellsOf 9 = 1 := by kernel_rfl
  have hsz : cs.length = 3 := by simpa [Try.one43] using hlen
  match ys, hyl with
  | [y0, y1, y2], _ =>
    match cs, hsz with
    | [a, b, c], _ =>
      have h0 := hf 0 _ rfl
      have h1 := hf 1 _ rfl
      have h2 := hf 2 _ rfl
      simp [c3, c9] at h0 h1 h2
      obtain ⟨k, hk, _⟩ := DataW.trod_int Try.underlying3 h0
      obtain ⟨s, hs, _⟩ := DataW.trod_string Try.underlying9 h1
      obtain ⟨v, hv, _⟩ := DataW.trod_string Try.underlying9 h2
      simp at hk hs hv
      subst hk hs hv
      exact ⟨⟨k, s, v⟩, rfl⟩
/-- A slice of changes. -/
theorem open_opsV {n : Nat} {v : Value} {x : DataW H × List MemPlace} (h : DataW.trod enc Try.prog w 0 (fun _ => true) true n 31 [v] = some x) : ∃ l, OpsV w v l := by
  rcases open_slice Try.underlying31 h with ⟨h0, _⟩ | ⟨a, len, cap, m, n', D, Pl, hcs, hb, hl, hm, hmm, hx, hi⟩
  · simp at h0
    exact ⟨[], none, 0, h0, Nat.le_refl _, by decide, .inl rfl⟩
  · simp at hcs
    subst hcs
    simp only [if_true] at hmm
    rw [Try.one43] at hi
    obtain ⟨f, hf⟩ := choose_lt (α := OpR) (n := len) (p := fun i o => w.cells? 0 (a.add (i * 3)) 3 = some o.cells) (fun i hil => by
      obtain ⟨cs', h1, h2⟩ := hi i (by omega)
      obtain ⟨o, rfl⟩ := open_op h2
      exact ⟨o, h1⟩)
    refine ⟨(List.range len).map f, some a, cap, by simp, by simpa using hl, by unfold maxLen at hm; omega, ?_⟩
    by_cases hl0 : len = 0
    · subst hl0; exact .inl rfl
    · right
      have hat : ∀ i, i < len → ∀ j (hj : j < 3), w.cell? (a.add (i * 3 + j)) = (f i).cells[j]? := fun i hil j hj => by
        obtain ⟨_, _, hat⟩ := World.cells?_some (hf i hil)
        rw [← add_add]; exact hat j hj
      obtain ⟨b, off, spot⟩ := a
      have hspot : spot = none := by simpa [Addr.add] using World.cell?_spot (hat 0 (by omega) 0 (by decide))
      subst hspot
      refine ⟨b, off, rfl, ?_, fun k hk => ?_⟩
      · have := hat 0 (by omega) 0 (by decide)
        rw [Addr.add_lit] at this
        exact cell_lt this
      · have hkl : k < len := by simpa using hk
        have h0 := hat k hkl 0 (by decide)
        have h1 := hat k hkl 1 (by decide)
        have h2 := hat k hkl 2 (by decide)
        rw [Addr.add_lit] at h0 h1 h2
        simp only [List.getElem_map, List.getElem_range]
        refine ⟨?_, ?_, ?_⟩
        · rw [Nat.add_zero] at h0; exact h0
        · rw [Nat.add_assoc]; exact h1
        · rw [Nat.add_assoc]; exact h2
end
set_option maxHeartbeats 800000 in
theorem asked_zero (w : World) (ao : Option Addr) (cap : Nat) : Asked w (.slice ao 0 cap) := by
  intro w' _
  suffices h : Calls Try.prog 5 #[.slice ao 0 cap] w' fun e w'' => e = .returned (.tuple #[.slice none 0 0, .slice none 0 0]) ∧ w' = w'' by
    refine h.mono ?_
    rintro e w'' ⟨rfl, rfl⟩
    exact ⟨_, _, [], rfl, by decide, (by simp), Has.nil _ _ _, Has.nil _ _ _, Below.refl _ _⟩
  go_enter Try.func5, Try.ntmps5
  go_wp2
  refine wp_loop_rounds 1 ?_
  rw [rounds_succ]
  go_wp2
  go_ret2
  exact ⟨rfl, rfl⟩
section
variable {H : Type} {enc : TypeId × Value → H} {w : World}
/-- Rows of changes. -/
theorem open_asked {n : Nat} {v : Value} {x : DataW H × List MemPlace} (h : DataW.trod enc Try.prog w 0 (fun _ => true) true n 22 [v] = some x) : Asked w v := by
  rcases open_slice1 Try.underlying22 Try.one31 h with ⟨h0, _⟩ | ⟨a, len, cap, m, n', V, D, Pl, hcs, hb, hl, hm, hmm, hx, hi⟩
  · simp at h0
    subst h0
    exact asked_nil w 0
  · simp at hcs
    subst hcs
    simp only [if_true] at hmm
    by_cases hl0 : len = 0
    · subst hl0
      exact asked_zero w _ cap
    · obtain ⟨f, hf⟩ := choose_lt (α := List OpR) (n := len) (p := fun i l => OpsV w (V i) l) (fun i hil => open_opsV (hi i (by omega)).2)
      obtain ⟨b, off, spot⟩ := a
      have hspot : spot = none := by simpa [Addr.add] using World.cell?_spot (hi 0 (by omega)).1
      subst hspot
      have hr : RowsAt w b off ((List.range len).map f) := by
        refine ⟨?_, fun i hil => ?_⟩
        · have := (hi 0 (by omega)).1
          rw [Addr.add_lit] at this
          exact cell_lt this
        · have hil2 : i < len := by simpa using hil
          have := (hi i (by omega)).1
          rw [Addr.add_lit] at this
          simp only [List.getElem_map, List.getElem_range]
          exact ⟨V i, this, hf i hil2⟩
      have := asked_rows w b off cap ((List.range len).map f) (by simpa using hl) (by unfold maxLen at hm; omega) hr
      simpa using this
end
end Go.Proofs.Ytcgbellmclhlpaa
