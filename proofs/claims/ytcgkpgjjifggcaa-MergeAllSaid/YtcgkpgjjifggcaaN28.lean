/-
  Merge: lists of cells that came in, with their reach.
-/
import Derived.Test.YtcgkpgjjifggcaaN26
import Derived.Test.YtcgkpgjjifggcaaN27
import Derived.SizedLaws
namespace Go.Proofs.Ytcgkpgjjifggcaa
set_option linter.unusedVariables false
set_option linter.unusedSimpArgs false
open Go.RowKit Sl Go.ChangeShapes Go.WideShapes Go.Deep

theorem Try.bytes42 : Try.prog.bytesOf 42 = 48 := by kernel_rfl
section
variable {H : Type} {enc : TypeId × Value → H} {w : World}
theorem weightsAll_mem (e : TypeId) (d : DataW H) (n : Nat) : ∀ es : List (DataW H), d ∈ es → n ∈ d.weights Try.prog e → n ∈ DataW.weightsAll Try.prog e es
  | [], h, _ => by simp at h
  | x :: es, h, hn => by
    unfold DataW.weightsAll
    rcases List.mem_cons.1 h with rfl | h
    · exact List.mem_append_left _ hn
    · exact List.mem_append_right _ (weightsAll_mem e d n es h hn)
theorem open_cvR {n : Nat} {v : Value} {x : DataW H × List MemPlace} (h : DataW.trod enc Try.prog w 0 (fun _ => true) true n 22 [v] = some x) :
    ∃ l, CV w (fun _ => False) v l ∧ ((x.1.weights Try.prog 22).all (· ≤ reachBytes) = true → l.length ≤ 2932031007317) := by
  obtain ⟨l, hl⟩ := open_cv h
  refine ⟨l, hl, fun hw => ?_⟩
  rcases open_slice Try.underlying22 h with ⟨h0, _⟩ | ⟨a, len, cap, m, n', D, Pl, hcs, hb, hl2, hm, hmm, hx, hi⟩
  · simp at h0
    subst h0
    have := (SlV.len hl).1
    omega
  · simp at hcs
    subst hcs
    have hll := (SlV.len hl).1
    rw [hx] at hw
    have h1 := List.all_eq_true.1 hw (((List.range len).map D).length + ((List.range (m - len)).map fun j => D (len + j)).length) 
    have h2 : (((List.range len).map D).length + ((List.range (m - len)).map fun j => D (len + j)).length) * Try.prog.bytesOf 42 ∈ (DataW.slice ((List.range len).map D) ((List.range (m - len)).map fun j => D (len + j))).weights Try.prog 22 := by
      unfold DataW.weights
      rw [Try.underlying22]
      simp
    have h3 := List.all_eq_true.1 hw _ h2
    rw [Try.bytes42] at h3
    simp only [List.length_map, List.length_range, reachBytes, decide_eq_true_eq] at h3
    omega
theorem open_lvR {n : Nat} {v : Value} {x : DataW H × List MemPlace} (h : DataW.trod enc Try.prog w 0 (fun _ => true) true n 25 [v] = some x) :
    ∃ L, LV w (fun _ => False) v L ∧ ((x.1.weights Try.prog 25).all (· ≤ reachBytes) = true → ∀ l ∈ L, l.length ≤ 2932031007317) := by
  rcases open_slice1 Try.underlying25 Try.one22 h with ⟨h0, _⟩ | ⟨a, len, cap, m, n', V, D, Pl, hcs, hb, hl, hm, hmm, hx, hi⟩
  · simp at h0
    exact ⟨[], ⟨[], rfl, ⟨none, 0, h0, Nat.le_refl _, by decide, .inl rfl⟩, fun k x l h _ => by simp at h⟩, fun _ l hl => by simp at hl⟩
  · simp at hcs
    subst hcs
    simp only [if_true] at hmm
    obtain ⟨f, hf⟩ := choose_lt (α := List CellR) (n := len) (p := fun i l => CV w (fun _ => False) (V i) l ∧ (((D i).weights Try.prog 22).all (· ≤ reachBytes) = true → l.length ≤ 2932031007317)) (fun i hil => open_cvR (hi i (by omega)).2)
    refine ⟨(List.range len).map f, ⟨(List.range len).map V, by simp, ⟨some a, cap, by simp, by simpa using hl, by unfold maxLen at hm ⊢; omega, ?_⟩, fun k x l h1 h2 => ?_⟩, fun hw l hl2 => ?_⟩
    · by_cases hl0 : len = 0
      · subst hl0; exact .inl rfl
      · right
        obtain ⟨b, off, spot⟩ := a
        have hspot : spot = none := by simpa [Addr.add] using World.cell?_spot (hi 0 (by omega)).1
        subst hspot
        refine ⟨b, off, rfl, fun h => h, ?_, fun j u hj => ?_⟩
        · have := (hi 0 (by omega)).1
          rw [Addr.add_lit] at this
          exact cell_lt this
        · rw [flat_id] at hj
          obtain ⟨hjl, rfl⟩ := List.getElem?_eq_some_iff.1 hj
          have := (hi j (by simp at hjl; omega)).1
          rw [Addr.add_lit] at this
          simpa using this
    · obtain ⟨hk, rfl⟩ := List.getElem?_eq_some_iff.1 h1
      obtain ⟨hk2, rfl⟩ := List.getElem?_eq_some_iff.1 h2
      simp only [List.getElem_map, List.getElem_range]
      exact (hf k (by simpa using hk)).1
    · obtain ⟨i, hi2, rfl⟩ := List.mem_map.1 hl2
      have hil := List.mem_range.1 hi2
      refine (hf i hil).2 (List.all_eq_true.2 (fun k hk => ?_))
      refine List.all_eq_true.1 hw k ?_
      rw [hx]
      have h1 := weightsAll_mem 22 (D i) k ((List.range len).map D) (List.mem_map.2 ⟨i, hi2, rfl⟩) hk
      unfold DataW.weights
      rw [Try.underlying25]
      simp only [List.mem_cons, List.mem_append]
      exact .inr (.inl h1)
end
end Go.Proofs.Ytcgkpgjjifggcaa
