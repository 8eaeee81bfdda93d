/-
  Slices that grow: what is known of one that may be appended to, wherever it lies; the law of append over that.
-/
import Derived.WalkKit
import Derived.WalkSpells
import Derived.WalkLawsBesides
import Derived.RowKit3
import Derived.Lib.Hide
import Derived.Deep.Upon
namespace Go.Proofs.Ytcgkpgjjifggcaa.Sl
set_option linter.unusedVariables false
set_option linter.unusedSimpArgs false
open Go.RowKit

/-- The slice value v of n elements ('size' cells each) has the cells xs; it is nil, or lies in a block from base on; its spare cells are there and may be written. -/
def Has (w : World) (base size : Nat) (v : Value) (n : Nat) (xs : List Value) : Prop :=
  xs.length = n * size ∧
  ((v = .slice none 0 0 ∧ n = 0) ∨
   ∃ g off cap, v = .slice (some ⟨g, off, none⟩) n cap ∧ base ≤ g ∧ g < w.heap.size ∧ n ≤ cap ∧ cap ≤ maxLen ∧
     (∀ j u, xs[j]? = some u → w.cell? ⟨g, off + j, none⟩ = some u) ∧
     (∀ j, j < (cap - n) * size → (w.cell? ⟨g, off + n * size + j, none⟩).isSome = true ∧ w.frozen? ⟨g, off + n * size + j, none⟩ = false))

theorem Has.nil (w : World) (base size : Nat) : Has w base size (.slice none 0 0) 0 [] := ⟨by simp, .inl ⟨rfl, rfl⟩⟩
theorem Has.of_owns {w : World} {base : Nat} {e : TypeId} {size : Nat} {v : Value} {n : Nat} {xs : List Value} (h : w.ownsRow base e size v n xs) : Has w base size v n xs := by
  refine ⟨h.1, ?_⟩
  rcases h.2 with ⟨rfl, hn⟩ | ⟨g, cap, cur, rfl, hB, hh, hle, hm, hs, ht⟩
  · exact .inl ⟨rfl, hn⟩
  · refine .inr ⟨g, 0, cap, rfl, hB, (Array.getElem?_eq_some_iff.1 hh).1, hle, hm, fun j u hj => ?_, fun j hj => ?_⟩
    · have hlt : j < n * size := by
        rw [← h.1]; exact (List.getElem?_eq_some_iff.1 hj).1
      rw [Nat.zero_add, h.cellAt j hlt, hj]
    · rw [Nat.zero_add]
      refine ⟨?_, h.frozenAt _⟩
      rw [cell_of_row w g _ cur e (0, 0) hh]
      have hlt : n * size + j < cur.size := by
        rw [hs]
        have : (cap - n) * size + n * size = cap * size := by rw [← Nat.add_mul, Nat.sub_add_cancel hle]
        omega
      simp [hlt]
theorem Has.base_le {w : World} {base base' size : Nat} {v : Value} {n : Nat} {xs : List Value} (h : Has w base size v n xs) (hb : base' ≤ base) : Has w base' size v n xs := by
  refine ⟨h.1, ?_⟩
  rcases h.2 with ⟨rfl, hn⟩ | ⟨g, off, cap, rfl, hB, r⟩
  · exact .inl ⟨rfl, hn⟩
  · exact .inr ⟨g, off, cap, rfl, Nat.le_trans hb hB, r⟩
/-- A later world in which the block reads as it did. -/
theorem Has.later {w w' : World} {base size : Nat} {v : Value} {n : Nat} {xs : List Value} (h : Has w base size v n xs) (hs : w.heap.size ≤ w'.heap.size)
    (hb : ∀ g, v.ownBlock = some g → g < w.heap.size → w'.heap[g]? = w.heap[g]?) : Has w' base size v n xs := by
  refine ⟨h.1, ?_⟩
  rcases h.2 with ⟨rfl, hn⟩ | ⟨g, off, cap, rfl, hB, hg, hle, hm, hc, hf⟩
  · exact .inl ⟨rfl, hn⟩
  · have hbl := hb g rfl hg
    refine .inr ⟨g, off, cap, rfl, hB, Nat.lt_of_lt_of_le hg hs, hle, hm, fun j u hj => ?_, fun j hj => ?_⟩
    · rw [World.cell?_of_block (w := w) (by exact hbl)]; exact hc j u hj
    · rw [World.cell?_of_block (w := w) (by exact hbl), World.frozen?_of_block (w := w) (by exact hbl)]; exact hf j hj
theorem Has.alloc {w : World} {base size : Nat} {v : Value} {n : Nat} {xs : List Value} (h : Has w base size v n xs) (o : Obj) : Has (w.alloc o) base size v n xs :=
  h.later (by simp) fun g _ hg => Below.heap_alloc w o g hg
theorem Has.grown {w w' : World} {base size : Nat} {v : Value} {n : Nat} {xs : List Value} {row : Option Nat} (h : Has w base size v n xs) (hg : w.grownBy w' row) (hne : v.ownBlock = none ∨ v.ownBlock ≠ row) : Has w' base size v n xs :=
  h.later hg.size fun g hv hlt => hg.block g hlt (by rcases hne with h0 | h0
                                                     · rw [h0] at hv; cases hv
                                                     · rw [← hv]; exact h0)
theorem Has.below {w w' : World} {base size B : Nat} {v : Value} {n : Nat} {xs : List Value} (h : Has w base size v n xs) (hb : Below B w w') (hB : ∀ g, v.ownBlock = some g → g < B) : Has w' base size v n xs :=
  h.later hb.size fun g hv _ => hb.block g (hB g hv)
theorem Has.lt {w : World} {base size : Nat} {v : Value} {n : Nat} {xs : List Value} (h : Has w base size v n xs) : ∀ k, v.ownBlock = some k → base ≤ k ∧ k < w.heap.size := by
  intro k hk
  rcases h.2 with ⟨rfl, _⟩ | ⟨g, off, cap, rfl, hB, hg, _⟩
  · simp [Value.ownBlock] at hk
  · simp [Value.ownBlock] at hk; subst hk; exact ⟨hB, hg⟩
theorem Has.parts {w : World} {base size : Nat} {v : Value} {n : Nat} {xs : List Value} (h : Has w base size v n xs) (hne : 0 < n) :
    ∃ g off cap, v = .slice (some ⟨g, off, none⟩) n cap ∧ base ≤ g ∧ g < w.heap.size ∧ n ≤ cap ∧ cap ≤ maxLen ∧ ∀ j u, xs[j]? = some u → w.cell? ⟨g, off + j, none⟩ = some u := by
  rcases h.2 with ⟨rfl, h0⟩ | ⟨g, off, cap, rfl, hB, hg, hle, hm, hc, hf⟩
  · omega
  · exact ⟨g, off, cap, rfl, hB, hg, hle, hm, hc⟩

/-- Cells written behind those that are there. -/
theorem has_setCells {w : World} {base size g off cap n m : Nat} {xs news : List Value} (h : Has w base size (.slice (some ⟨g, off, none⟩) n cap) n xs) (hl : news.length = m * size) (hroom : n + m ≤ cap) :
    Has (w.setCells g (off + n * size) news) base size (.slice (some ⟨g, off, none⟩) (n + m) cap) (n + m) (xs ++ news) ∧ w.grownBy (w.setCells g (off + n * size) news) (some g) := by
  have hlx := h.1
  rcases h.2 with ⟨h', _⟩ | ⟨g', off', cap', h', hB, hg, hle, hm, hc, hf⟩
  · simp at h'
  · simp only [Value.slice.injEq, Option.some.injEq, Addr.mk.injEq, and_true, true_and] at h'
    obtain ⟨⟨rfl, rfl⟩, rfl⟩ := h'
    have hfits : m * size ≤ (cap - n) * size := Nat.mul_le_mul_right _ (by omega)
    have hin : ∀ j, j < news.length → (w.cell? ⟨g, off + n * size + j, none⟩).isSome = true := fun j hj => (hf j (by omega)).1
    have hsz : ∀ (vs : List Value) (o : Nat) (w : World), (w.setCells g o vs).heap.size = w.heap.size := by
      intro vs
      induction vs with
      | nil => intro o w; rfl
      | cons v r ih => intro o w; show ((w.setCell ⟨g, o, none⟩ v).setCells g (o + 1) r).heap.size = _; rw [ih]; simp
    refine ⟨⟨by simp [hlx, hl, Nat.add_mul], .inr ⟨g, off, cap, rfl, hB, by rw [hsz]; exact hg, hroom, hm, fun j u hj => ?_, fun j hj => ?_⟩⟩, ?_⟩
    · by_cases hlt : j < xs.length
      · rw [List.getElem?_append_left hlt] at hj
        rw [World.cell?_setCells_out g news _ w _ (fun _ _ => .inl (by show off + j < off + n * size; omega))]
        exact hc j u hj
      · rw [List.getElem?_append_right (by omega)] at hj
        obtain ⟨hjl, hju⟩ := List.getElem?_eq_some_iff.1 hj
        have := World.cell?_setCells_in g news (off + n * size) w hin (j - xs.length) hjl
        rw [show off + n * size + (j - xs.length) = off + j by omega] at this
        rw [this, hju]
    · have e1 : (n + m) * size = n * size + m * size := Nat.add_mul _ _ _
      have e2 : (cap - n) * size = m * size + (cap - (n + m)) * size := by rw [← Nat.add_mul]; congr 1; omega
      have := hf (m * size + j) (by omega)
      rw [World.cell?_setCells_out g news _ w _ (fun _ _ => .inr (by show off + n * size + news.length ≤ off + (n + m) * size + j; omega)), World.frozen?_setCells,
        show off + (n + m) * size + j = off + n * size + (m * size + j) by omega]
      exact this
    · refine ⟨World.os_setCells _ _ _ _, ?_, World.output_setCells _ _ _ _, by rw [hsz]; exact Nat.le_refl _, fun k hk hne => World.heap_setCells_other w g _ news hk (fun h => hne (by rw [h]))⟩
      have ht : ∀ (vs : List Value) (o : Nat) (w : World), (w.setCells g o vs).tape = w.tape := by
        intro vs
        induction vs with
        | nil => intro o w; rfl
        | cons v r ih => intro o w; show ((w.setCell ⟨g, o, none⟩ v).setCells g (o + 1) r).tape = _; rw [ih]; rfl
      exact ht _ _ _

/-- 's = append(s, ..)': wherever s lies. -/
theorem wpList_append_has {P : Program} (w : World) {ops : Array Oper} {rest : List Oper} {o : Oper} {a : Act} {Q : Exit → Act → World → Prop} (hgd : o.guard = none) (s x : Operand) (t : TypeId)
    (ho : o.op = Op.call { callee := Callee.builtin Builtin.append, args := #[s, x], argTypes := #[t, t] })
    (base : Nat) (e : TypeId) (i : TypeInfo) (z : Value) (size bytes : Nat) (ht : P.underlying t = some (.slice e)) (hi : P.info? e = some i) (hz : i.zero = some z) (hsize : i.size = size) (hby : i.bytes = bytes) (hzs : z.cells.size = size) (hsz : 0 < size)
    (v : Value) (n : Nat) (xs : List Value) (hs : a.eval s = v) (h : Has w base size v n xs)
    (ad : Addr) (m c : Nat) (news : List Value) (hx : a.eval x = .slice (some ad) m c) (hl : news.length = m * size) (hnews : ∀ j u, news[j]? = some u → w.cell? (ad.add j) = some u) (h1 : ∀ u ∈ news, u.oneCell' = true)
    (h63 : n + m ≤ maxLen) (hbytes : (n + m) * bytes ≤ 140737488355328) (hbase : base ≤ w.heap.size)
    (hK : ∀ v' w', Has w' base size v' (n + m) (xs ++ news) → w.grownBy w' v.ownBlock → wpList P ops Q rest (a.put o.dst v') w') : wpList P ops Q (o :: rest) a w := by
  have h' := h
  rcases h.2 with ⟨rfl, rfl⟩ | ⟨g, off, cap, rfl, hB, hg, hle, hm, hc, hf⟩
  · have hx0 : xs = [] := List.length_eq_zero_iff.1 (by rw [h.1]; simp)
    subst hx0
    refine wpList_append_own w hgd s x t ho base e i z size bytes ht hi hz hsize hby hzs hsz _ 0 [] hs (World.ownsRow_nil w base e size) ad m c news hx hl hnews h1 h63 hbytes hbase ?_
    intro v' w' hown hgr _
    exact hK v' w' (Has.of_owns hown) hgr
  · refine wpList_append_arg w hgd s x t ho e i z size bytes ht hi hz hsize hby hzs hsz g off n cap xs hs h.1 hc ad m c news hx hl hnews h1 (fun hroom j hj => hf j ?_) h63 hbytes (fun hroom => ?_) (fun hfull v' w' hown hgr => ?_)
    · have hfits : m * size ≤ (cap - n) * size := Nat.mul_le_mul_right _ (by omega)
      omega
    · obtain ⟨r1, r2⟩ := has_setCells h' hl hroom
      exact hK _ _ r1 r2
    · refine hK v' w' ((Has.of_owns hown).base_le hbase) ?_
      exact ⟨hgr.os, hgr.tape, hgr.output, hgr.size, fun k hk _ => hgr.block k hk (by simp)⟩
end Go.Proofs.Ytcgkpgjjifggcaa.Sl
