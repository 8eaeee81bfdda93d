/-
  Merge: a row made with room to spare.
-/
import Derived.Test.YtcgkpgjjifggcaaN40
import Derived.Deep.Upon
import Derived.Deep.WholeRow
namespace Go.Proofs.Ytcgkpgjjifggcaa
set_option linter.unusedVariables false
set_option linter.unusedSimpArgs false
open Go.RowKit Sl

theorem wpList_make_cells {P : Program} (w : World) {ops : Array Oper} {rest : List Oper} {o : Oper} {a : Act} {Q : Exit → Act → World → Prop}
    (hg : o.guard = none) (l c : Operand) (t : TypeId) (hop : o.op = Op.makeSlice t l c) (e : TypeId) (i : TypeInfo) (z : Value) (size : Nat) (h1 : P.underlying t = some (.slice e)) (h2 : P.info? e = some i) (h3 : i.zero = some z) (h4 : i.size = size)
    (kl kc : IntKind) (C : Int) (n : Nat) (hl : a.eval l = .int kl 0) (hc : a.eval c = .int kc C) (hC : C = (n : Int)) (b2 : (i.bytes : Int) * n ≤ 281474976710656) (b3 : (n : Int) ≤ 9223372036854775807)
    (wm : World) (hwm : w.alloc (.cells (madeCells z.cells (n * size)) e) = wm) (hK : wpList P ops Q rest (a.put o.dst (.slice (some ⟨w.heap.size, 0, none⟩) 0 n)) wm) : wpList P ops Q (o :: rest) a w := by
  refine wpList_plain hg fun K hK' => ?_
  subst hC hwm
  have hrun := run_make (P := P) w t e i z h1 h2 h3 kl kc 0 n (Int.le_refl _) (by omega) b2 b3
  simp only [Int.toNat_natCast, Int.toNat_zero, h4] at hrun
  unfold Oper.wp
  simp [execOp, hop, hl, hc, hrun, Result.andThen]
  exact hK' _ _ hK
/-- A slice appended to a row that is new and has room. -/
theorem run_keep {α : Type} {P : Program} (enc : α → List Value) (size : Nat) (he : ∀ a, (enc a).length = size) (h1e : ∀ a, ∀ u ∈ enc a, u.oneCell' = true) (t e : TypeId) (i : TypeInfo) (ht : P.underlying t = some (.slice e)) (hi : P.info? e = some i) (hs : i.size = size)
    (w : World) (S : Nat → Prop) (a : Option Addr) (n c : Nat) (l : List α) (h : SlV enc w S (.slice a n c) l) (Z : Array Value) (cap : Nat) (hZ : Z.size = cap * size) (hn : n ≤ cap) (ty : TypeId) :
    (Builtin.append_ #[t, t] ty #[.slice (some ⟨w.heap.size, 0, none⟩) 0 cap, .slice a n c]).run P (w.alloc (.cells Z e)) = .ok (.slice (some ⟨w.heap.size, 0, none⟩) n cap) (w.alloc (.cells (flat enc l ++ Z.toList.drop (n * size)).toArray e)) := by
  have hll := (SlV.len h).1
  have hfl : (flat enc l).length = n * size := by rw [flat_len enc size he, hll]
  cases a with
  | none =>
    obtain rfl : n = 0 := (SlV.row h).1 rfl
    obtain rfl : l = [] := List.length_eq_zero_iff.1 hll
    simp [Builtin.append_, run_underlying ht, sizeOf, typeInfo, hi, Builtin.lenOf, Builtin.firstCells, storeCells, flat, loadCells]
  | some ad =>
    have hx := run_append_room (P := P) (w.alloc (.cells Z e)) t ty e i ht hi w.heap.size 0 cap Z (by show (w.heap.push _)[w.heap.size]? = _; simp) ad n c (flat enc l) (by rw [hfl, hs])
      (fun j u hj => (SlV.row (h.below ((Below.refl _ _).alloc (Nat.le_refl _) _))).2 ad rfl j u hj) (flat_one enc h1e l) (by omega) (by rw [hfl, hZ, Nat.zero_mul, Nat.zero_add]; exact Nat.mul_le_mul_right _ hn)
    rw [World.setRow_alloc_new, Nat.zero_mul, Nat.zero_add, Nat.zero_add, hfl, List.take_zero, List.nil_append] at hx
    exact hx
def zCell : CellR := ⟨⟨⟨#[]⟩, 0, 0⟩, ⟨#[]⟩⟩
def zPair : PairR := ⟨⟨#[]⟩, ⟨#[]⟩⟩
theorem made_cell (n : Nat) : (madeCells (Value.agg #[.string ⟨#[]⟩, .int .i64 0, .int .i64 0, .string ⟨#[]⟩]).cells ((n + 2) * 4)).toList.drop (n * 4) = flat CellR.cells [zCell, zCell] := by
  show ((Array.range ((n + 2) * 4)).map _).toList.drop (n * 4) = _
  rw [Array.toList_map, Array.toList_range, ← List.map_drop, List.range_eq_range', List.drop_range', show (n + 2) * 4 - n * 4 = 8 by omega]
  have hz : (Value.agg #[.string ⟨#[]⟩, .int .i64 0, .int .i64 0, .string ⟨#[]⟩]).cells = #[.string ⟨#[]⟩, .int .i64 0, .int .i64 0, .string ⟨#[]⟩] := by rfl
  rw [hz]
  simp only [List.range', List.map_cons, List.map_nil, List.size_toArray, List.length_cons, List.length_nil]
  have e (t : Nat) : (n * 4 + t) % 4 = t % 4 := by omega
  have e0 : (n * 4) % 4 = 0 := by omega
  simp [flat, CellR.cells, zCell, Nat.add_assoc, e, e0]
theorem made_pair (n : Nat) : (madeCells (Value.agg #[.string ⟨#[]⟩, .string ⟨#[]⟩]).cells ((n + 3) * 2)).toList.drop (n * 2) = flat PairR.cells [zPair, zPair, zPair] := by
  show ((Array.range ((n + 3) * 2)).map _).toList.drop (n * 2) = _
  rw [Array.toList_map, Array.toList_range, ← List.map_drop, List.range_eq_range', List.drop_range', show (n + 3) * 2 - n * 2 = 6 by omega]
  have hz : (Value.agg #[.string ⟨#[]⟩, .string ⟨#[]⟩]).cells = #[.string ⟨#[]⟩, .string ⟨#[]⟩] := by rfl
  rw [hz]
  simp only [List.range', List.map_cons, List.map_nil, List.size_toArray, List.length_cons, List.length_nil]
  have e (t : Nat) : (n * 2 + t) % 2 = t % 2 := by omega
  have e0 : (n * 2) % 2 = 0 := by omega
  simp [flat, PairR.cells, zPair, Nat.add_assoc, e, e0]
end Go.Proofs.Ytcgkpgjjifggcaa
