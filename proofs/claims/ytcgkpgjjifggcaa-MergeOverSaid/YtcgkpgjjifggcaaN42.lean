/-
  Merge: the walk of MergeKeeps.
-/
import Derived.Test.YtcgkpgjjifggcaaN41
import Derived.Lib.AppendZeros
namespace Go.Proofs.Ytcgkpgjjifggcaa
set_option linter.unusedVariables false
set_option linter.unusedSimpArgs false
open Go.RowKit Sl

/-- A row of cells that may be written. -/
def Wr (w : World) (g N : Nat) : Prop := ∀ j, j < N → (w.cell? ⟨g, j, none⟩).isSome = true ∧ w.frozen? ⟨g, j, none⟩ = false
theorem Wr.set {w : World} {g N : Nat} (h : Wr w g N) (j : Nat) (u : Value) : Wr (w.setCell ⟨g, j, none⟩ u) g N := fun t ht => by
  refine ⟨?_, ?_⟩
  · by_cases e : t = j
    · subst e
      have := World.cell?_setCells_in g [u] t w (fun k hk => by
        have hk0 : k = 0 := by simpa using hk
        subst hk0
        exact (h t ht).1) 0 (by simp)
      simp [World.setCells] at this
      rw [this]; rfl
    · have := World.cell?_setCells_out g [u] j w ⟨g, t, none⟩ (fun _ _ => by show t < j ∨ j + 1 ≤ t; omega)
      simp [World.setCells] at this
      rw [this]
      exact (h t ht).1
  · show (w.setCells g j [u]).frozen? ⟨g, t, Option.none⟩ = false
    rw [World.frozen?_setCells]
    exact (h t ht).2
theorem Mod.set {S : Nat → Prop} {w w' : World} (h : Mod S w w') (g j : Nat) (u : Value) (hg : S g) : Mod S w (w'.setCell ⟨g, j, none⟩ u) := by
  have := mod_setCells g [u] j w'
  simp [World.setCells] at this
  exact h.trans (this.mono (fun k hk => by rw [hk]; exact hg))
theorem Wr.own {w : World} {base : Nat} {e : TypeId} {size : Nat} {v : Value} {n : Nat} {xs : List Value} (h : w.ownsRow base e size v n xs) (hn : 0 < n) : ∃ g cap, v = .slice (some ⟨g, 0, none⟩) n cap ∧ base ≤ g ∧ g < w.heap.size ∧ Wr w g (n * size) := by
  obtain ⟨g, cap, cur, rfl, hB, hgl, hh, hle, hm, hcs, hc, hsome, hfr⟩ := own_parts h hn
  exact ⟨g, cap, rfl, hB, hgl, fun j hj => ⟨hsome j (Nat.lt_of_lt_of_le hj (Nat.mul_le_mul_right _ hle)), hfr j⟩⟩
theorem Wr.some {w : World} {g N : Nat} (h : Wr w g N) (j : Nat) (hj : j < N) : ∃ u, w.cell? ⟨g, j, none⟩ = some u := Option.isSome_iff_exists.1 (h j hj).1

theorem docA_one (D : List CellR) : docA [D] = D := by
  show Pl.mrg CellR.ver verLt [] D = D
  exact Pl.nil_mrg CellR.ver verLt D

theorem keeps_sort (v : Value) (l : List CellR) (S : Nat → Prop) (w : World) (h : CV w S v l) : ∀ W, Below w.heap.size w W → Calls Try.prog 22 #[v] W fun e w2 => ∃ (a : Option Addr) (n c : Nat) (D : List CellR), e = .returned (.slice a n c) ∧ Pl.Srt CellR.ver verLt D ∧ D.length = n ∧ n ≤ 60 ∧ CV w2 (fun k => w2.heap.size ≤ k) (.slice a n c) D ∧ Below w.heap.size w w2 := fun W hW =>
  (sort_ok v l S W (h.below hW)).mono (by
    rintro e w2 ⟨v', D, rfl, hs, hn, hh, hb⟩
    obtain ⟨a, c, rfl, -⟩ := hh.shape
    exact ⟨a, D.length, c, D, rfl, hs, rfl, hn, SlV.lim (SlV.of_has hh) (T := fun k => w2.heap.size ≤ k) (fun b hb _ h => by omega), hW.trans (hb.mono hW.size)⟩)
/-- The row made for the cells: what it holds, all of it. -/
theorem keeps_in (a : Option Addr) (n c : Nat) (D : List CellR) (w wm : World) (S : Nat → Prop) (h : CV w S (.slice a n c) D) (hn : n ≤ 60) (hwm : w.alloc (.cells (madeCells (Value.agg #[.string ⟨#[]⟩, .int .i64 0, .int .i64 0, .string ⟨#[]⟩]).cells ((n + 2) * 4)) 42) = wm) :
    ∃ w3, (∀ ty, (Builtin.append_ #[22, 22] ty #[.slice (some ⟨w.heap.size, 0, none⟩) 0 (n + 2), .slice a n c]).run Try.prog wm = .ok (.slice (some ⟨w.heap.size, 0, none⟩) n (n + 2)) w3) ∧ w3.heap.size = w.heap.size + 1 ∧ Below w.heap.size w w3 ∧
      CV w3 (fun k => k ≠ w.heap.size) (.slice (some ⟨w.heap.size, 0, none⟩) (n + 2) (n + 2)) (D ++ [zCell, zCell]) := by
  obtain ⟨i0, hi, hz0, hz1, hz2⟩ := info_parts Try.infoCell
  have hll := (SlV.len h).1
  refine ⟨_, fun ty => ?_, ?_, (Below.refl _ _).alloc (Nat.le_refl _) (.cells (flat CellR.cells D ++ flat CellR.cells [zCell, zCell]).toArray 42), SlV.fresh w _ 42 (D ++ [zCell, zCell]) (n + 2) _ (fun h => h rfl) (by rw [flat_app]) (by rw [List.length_append, hll]; rfl) (by unfold maxLen; omega)⟩
  · rw [← hwm, run_keep CellR.cells 4 CellR.cells_len CellR.cells_one 22 42 i0 Try.underlying22 hi hz1 w S a n c D h _ (n + 2) (size_madeCells _ _) (by omega) ty, made_cell]
  · simp
theorem keeps_base (a : Option Addr) (n c : Nat) (D : List PairR) (w wm : World) (S : Nat → Prop) (h : SlV PairR.cells w S (.slice a n c) D) (hn : n ≤ 60) (hwm : w.alloc (.cells (madeCells (Value.agg #[.string ⟨#[]⟩, .string ⟨#[]⟩]).cells ((n + 3) * 2)) 49) = wm) :
    ∃ w3, (∀ ty, (Builtin.append_ #[46, 46] ty #[.slice (some ⟨w.heap.size, 0, none⟩) 0 (n + 3), .slice a n c]).run Try.prog wm = .ok (.slice (some ⟨w.heap.size, 0, none⟩) n (n + 3)) w3) ∧ w3.heap.size = w.heap.size + 1 ∧ Below w.heap.size w w3 ∧
      SlV PairR.cells w3 (fun k => k ≠ w.heap.size) (.slice (some ⟨w.heap.size, 0, none⟩) (n + 3) (n + 3)) (D ++ [zPair, zPair, zPair]) := by
  obtain ⟨i0, hi, hz0, hz1, hz2⟩ := info_parts Try.infoPair
  have hll := (SlV.len h).1
  refine ⟨_, fun ty => ?_, ?_, (Below.refl _ _).alloc (Nat.le_refl _) (.cells (flat PairR.cells D ++ flat PairR.cells [zPair, zPair, zPair]).toArray 49), SlV.fresh w _ 49 (D ++ [zPair, zPair, zPair]) (n + 3) _ (fun h => h rfl) (by rw [flat_app]) (by rw [List.length_append, hll]; rfl) (by unfold maxLen; omega)⟩
  · rw [← hwm, run_keep PairR.cells 2 PairR.cells_len PairR.cells_one 46 49 i0 Try.underlying46 hi hz1 w S a n c D h _ (n + 3) (size_madeCells _ _) (by omega) ty, made_pair]
  · simp
theorem keeps_all (D : List CellR) (n : Nat) (a : Option Addr) (c : Nat) (w : World) (h : CV w (fun _ => False) (.slice a n c) D) (hn : n ≤ 60) (hs : Pl.Srt CellR.ver verLt D) :
    Calls Try.prog 11 #[.slice (some ⟨w.heap.size, 0, none⟩) 1 1] (w.alloc (.cells #[.slice a n c] 22)) fun e w' => ∃ a' c', e = .returned (.tuple #[.slice a' n c', .int .i64 0]) ∧ w'.ownsRow w.heap.size 42 4 (.slice a' n c') n (flat CellR.cells D) ∧ Below w.heap.size w w' := by
  have hll := (SlV.len h).1
  have hso : Sorted [D] := fun l hl => by
    have : l = D := by simpa using hl
    rw [this]; exact hs
  refine (all_own _ [D] (fun _ => False) _ (LV.pack w _ [D] 1 _ (fun h => h) rfl rfl (by unfold maxLen; omega) (fun k x l hx hl => ?_)) (by simp) (by simp [total]; omega)).mono ?_
  · match k, hx, hl with
    | 0, hx, hl =>
      obtain rfl := Option.some.inj hx
      obtain rfl := Option.some.inj hl
      exact h
    | k + 1, hx, _ => exact absurd hx (by simp)
  · rintro e w' (⟨h1, _⟩ | ⟨_, h1, _⟩ | ⟨_, _, v', rfl, ho, hb⟩)
    · simp at h1
    · exact absurd hso h1
    · rw [docA_one, hll] at ho
      obtain ⟨a', c', rfl⟩ := ownsRow_shape ho
      exact ⟨a', c', rfl, own_base_le ho (by simp), ((Below.refl _ _).alloc (Nat.le_refl _) _).trans (hb.mono (by simp))⟩
theorem Wr.mod {S : Nat → Prop} {w w' : World} {g N : Nat} (h : Wr w g N) (hm : Mod S w w') (hg : g < w.heap.size) (hs : ¬ S g) : Wr w' g N := fun j hj => by
  rw [hm.cell g j hg hs, hm.frozen g j hg hs]
  exact h j hj
theorem tail_get {α : Type} (l t : List α) (n i : Nat) (z : α) (hl : l.length = n) (hi : n ≤ i) (h : ∀ j, j < t.length → t[j]? = some z) (hi2 : i < n + t.length) : (l ++ t)[i]? = some z := by
  rw [List.getElem?_append_right (by omega)]
  exact h _ (by omega)
end Go.Proofs.Ytcgkpgjjifggcaa
