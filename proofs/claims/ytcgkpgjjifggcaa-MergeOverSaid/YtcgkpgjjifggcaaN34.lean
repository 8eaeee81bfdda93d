/-
  Merge: rows of pairs that the call owns: cells written, copied, cleared.
-/
import Derived.Test.YtcgkpgjjifggcaaN33
import Derived.Lib.AppendZerosOnto
import Derived.Lib.AppendZeros
import Derived.Lib.Overlaps
import Derived.Laws.IdiomCopy
import Derived.Lib.SliceRun
import Derived.Laws.Externs
import Derived.ArgAppend
namespace Go.Proofs.Ytcgkpgjjifggcaa
set_option linter.unusedVariables false
set_option linter.unusedSimpArgs false
open Go.RowKit Sl

/-- Pairs in a row of the call's own. -/
abbrev Own2 (w : World) (base : Nat) (v : Value) (l : List PairR) : Prop := w.ownsRow base 49 2 v l.length (flat PairR.cells l)
theorem setCell_block (w : World) (g o : Nat) (v : Value) (cur : Array Value) (e : TypeId) (fr : Nat × Nat) (h : w.heap[g]? = some (.cells cur e fr)) : ∃ cur', (w.setCell ⟨g, o, none⟩ v).heap[g]? = some (.cells cur' e fr) ∧ cur'.size = cur.size := by
  have hg : g < w.heap.size := (Array.getElem?_eq_some_iff.1 h).1
  have hx : w.heap[g] = .cells cur e fr := (Array.getElem?_eq_some_iff.1 h).2
  refine ⟨cur.setIfInBounds o v, ?_, by simp⟩
  show (w.heap.modify g _)[g]? = _
  rw [Array.getElem?_modify, if_pos rfl, h]
  rfl
theorem setCells_block (g : Nat) (e : TypeId) (fr : Nat × Nat) : ∀ (vs : List Value) (o : Nat) (w : World) (cur : Array Value), w.heap[g]? = some (.cells cur e fr) → ∃ cur', (w.setCells g o vs).heap[g]? = some (.cells cur' e fr) ∧ cur'.size = cur.size
  | [], o, w, cur, h => ⟨cur, h, rfl⟩
  | v :: vs, o, w, cur, h => by
    obtain ⟨c1, h1, h2⟩ := setCell_block w g o v cur e fr h
    obtain ⟨c2, h3, h4⟩ := setCells_block g e fr vs (o + 1) (w.setCell ⟨g, o, none⟩ v) c1 h1
    exact ⟨c2, h3, h4.trans h2⟩
/-- A row known by its cells. -/
theorem own_mk {w : World} {base : Nat} {e : TypeId} {size g n cap : Nat} {xs : List Value} {cur : Array Value} (hB : base ≤ g) (hh : w.heap[g]? = some (.cells cur e (0, 0))) (hn : n ≤ cap) (hm : cap ≤ maxLen) (hcs : cur.size = cap * size)
    (hl : xs.length = n * size) (hc : ∀ j u, xs[j]? = some u → w.cell? ⟨g, j, none⟩ = some u) : w.ownsRow base e size (.slice (some ⟨g, 0, none⟩) n cap) n xs := by
  refine ⟨hl, .inr ⟨g, cap, cur, rfl, hB, hh, hn, hm, hcs, ?_⟩⟩
  have hle : n * size ≤ cap * size := Nat.mul_le_mul_right _ hn
  apply List.ext_getElem?
  intro j
  by_cases hj : j < n * size
  · have hjx : j < xs.length := by omega
    have h1 := hc j xs[j] (by simp [hjx])
    rw [cell_of_row w g j cur e (0, 0) hh] at h1
    rw [List.getElem?_take, if_pos hj]
    have h2 : cur.toList[j]? = cur[j]? := by simp
    rw [h2, h1]; simp [hjx]
  · rw [List.getElem?_eq_none (by simp; omega), List.getElem?_eq_none (by omega)]
theorem own_parts {w : World} {base : Nat} {v : Value} {n : Nat} {xs : List Value} {e : TypeId} {size : Nat} (h : w.ownsRow base e size v n xs) (hn : 0 < n) : ∃ g cap cur, v = .slice (some ⟨g, 0, none⟩) n cap ∧ base ≤ g ∧ g < w.heap.size ∧ w.heap[g]? = some (.cells cur e (0, 0)) ∧ n ≤ cap ∧ cap ≤ maxLen ∧ cur.size = cap * size ∧
    (∀ j u, xs[j]? = some u → w.cell? ⟨g, j, none⟩ = some u) ∧ (∀ j, j < cap * size → (w.cell? ⟨g, j, none⟩).isSome = true) ∧ (∀ j, w.frozen? ⟨g, j, none⟩ = false) := by
  have h' := h
  rcases h.2 with ⟨_, h0⟩ | ⟨g, cap, cur, rfl, hB, hh, hle, hm, hcs, ht⟩
  · omega
  · refine ⟨g, cap, cur, rfl, hB, (Array.getElem?_eq_some_iff.1 hh).1, hh, hle, hm, hcs, fun j u hj => ?_, fun j hj => ?_, fun j => h'.frozenAt j⟩
    · have hjl : j < n * size := by rw [← h'.1]; exact (List.getElem?_eq_some_iff.1 hj).1
      rw [h'.cellAt j hjl, hj]
    · rw [cell_of_row w g j cur e (0, 0) hh]
      simp [hcs, hj]
theorem Own2.sl {w : World} {base : Nat} {v : Value} {l : List PairR} (h : Own2 w base v l) : SlV PairR.cells w (fun k => k < base) v l := SlV.of_has (Has.of_owns h)
theorem own2_mod {S : Nat → Prop} {w w' : World} {base : Nat} {v : Value} {l : List PairR} (h : Own2 w base v l) (hm : Mod S w w') (hS : ∀ k, S k → k < base) : Own2 w' base v l :=
  ownsRow_mod h hm (fun k hk hs => by have := hS k hs; have := (h.lt k hk).1; omega)

/-- 'copy' at elements of more cells than one. -/
theorem run_copy_rows {P : Program} (w : World) (dT sT ty elem : TypeId) (size b o dLen dCap : Nat) (a : Addr) (sLen sCap : Nat) (cs : List Value) (hu : P.underlying dT = some (.slice elem)) (hs : (P.info? elem).map (·.size) = some size) (k : Nat) (hk : Nat.min sLen dLen = k) (hn : cs.length = k * size)
    (hsrc : ∀ j v, cs[j]? = some v → w.cell? (a.add j) = some v) (hc : ∀ j, j < cs.length → (w.cell? ⟨b, o + j, none⟩).isSome = true) (hf : ∀ j, j < cs.length → w.frozen? ⟨b, o + j, none⟩ = false) (h1 : ∀ v ∈ cs, v.oneCell' = true) :
    (Builtin.copy_ #[dT, sT] ty #[.slice (some ⟨b, o, none⟩) dLen dCap, .slice (some a) sLen sCap]).run P w = .ok (goInt k) (w.setCells b o cs) := by
  have hl := run_loadCells_list (P := P) w a cs hsrc
  have hst := run_storeCells_cells (P := P) b o cs 0 w (by simpa using hc) (by simpa using hf) h1
  cases hq : P.info? elem with
  | none => simp [hq] at hs
  | some i =>
    have hi : i.size = size := by simpa [hq] using hs
    have hk' : min sLen dLen = k := hk
    rw [hn] at hl
    simp [Builtin.copy_, run_underlying hu, Builtin.lenOf, Builtin.firstCells, sizeOf, typeInfo, hq, hi, hk', hk, hl, hst]
theorem zero49 (w : World) : (zeroValue 49).run Try.prog w = .ok (.agg #[.string ⟨#[]⟩, .string ⟨#[]⟩]) w := by kernel_rfl
/-- 'clear' of one pair. -/
theorem run_clear_pair (w : World) (ty : TypeId) (b o c : Nat) (hc0 : (w.cell? ⟨b, o, none⟩).isSome = true) (hc1 : (w.cell? ⟨b, o + 1, none⟩).isSome = true) (hf : ∀ j, w.frozen? ⟨b, j, none⟩ = false) :
    (Builtin.clear_ #[46] ty #[.slice (some ⟨b, o, none⟩) 1 c]).run Try.prog w = .ok (.tuple #[]) (w.setCells b o [.string ⟨#[]⟩, .string ⟨#[]⟩]) := by
  have hzc : (Builtin.zeroCells (Value.agg #[.string ⟨#[]⟩, .string ⟨#[]⟩]).cells 1).toList = [.string ⟨#[]⟩, .string ⟨#[]⟩] := by kernel_rfl
  have hcc : ∀ j, j < [Value.string ⟨#[]⟩, Value.string ⟨#[]⟩].length → (w.cell? ⟨b, o + 0 + j, none⟩).isSome = true := by
    intro j hj
    have : j = 0 ∨ j = 1 := by simp at hj; omega
    rcases this with rfl | rfl
    · simpa using hc0
    · simpa using hc1
  have hst := run_storeCells_cells (P := Try.prog) b o [.string ⟨#[]⟩, .string ⟨#[]⟩] 0 w hcc (fun j _ => hf _) (by intro v hv; simp at hv; subst hv; rfl)
  simp only [Nat.add_zero] at hst
  simp [Builtin.clear_, run_underlying Try.underlying46, zero49, hzc, hst]
end Go.Proofs.Ytcgkpgjjifggcaa
