/-
  Slices that grow: the law of append once more, with where the new value lies; sources that stay.
-/
import Derived.Test.YtcgkpgjjifggcaaG1
namespace Go.Proofs.Ytcgkpgjjifggcaa.Sl
set_option linter.unusedVariables false
set_option linter.unusedSimpArgs false
open Go.RowKit

/-- 's = append(s, ..)': the value behind it lies where it lay, or in new memory. -/
theorem wpList_append_at {P : Program} (w : World) {ops : Array Oper} {rest : List Oper} {o : Oper} {a : Act} {Q : Exit → Act → World → Prop} (hgd : o.guard = none) (s x : Operand) (t : TypeId)
    (ho : o.op = Op.call { callee := Callee.builtin Builtin.append, args := #[s, x], argTypes := #[t, t] })
    (base : Nat) (e : TypeId) (i : TypeInfo) (z : Value) (size bytes : Nat) (ht : P.underlying t = some (.slice e)) (hi : P.info? e = some i) (hz : i.zero = some z) (hsize : i.size = size) (hby : i.bytes = bytes) (hzs : z.cells.size = size) (hsz : 0 < size)
    (v : Value) (n : Nat) (xs : List Value) (hs : a.eval s = v) (h : Has w base size v n xs)
    (ad : Addr) (m c : Nat) (news : List Value) (hx : a.eval x = .slice (some ad) m c) (hl : news.length = m * size) (hnews : ∀ j u, news[j]? = some u → w.cell? (ad.add j) = some u) (h1 : ∀ u ∈ news, u.oneCell' = true)
    (h63 : n + m ≤ maxLen) (hbytes : (n + m) * bytes ≤ 140737488355328) (hbase : base ≤ w.heap.size)
    (hK : ∀ v' w', Has w' base size v' (n + m) (xs ++ news) → w.grownBy w' v.ownBlock → (∀ g, v'.ownBlock = some g → v.ownBlock = some g ∨ w.heap.size ≤ g) → wpList P ops Q rest (a.put o.dst v') w') : wpList P ops Q (o :: rest) a w := by
  have h' := h
  rcases h.2 with ⟨rfl, rfl⟩ | ⟨g, off, cap, rfl, hB, hg, hle, hm, hc, hf⟩
  · have hx0 : xs = [] := List.length_eq_zero_iff.1 (by rw [h.1]; simp)
    subst hx0
    refine wpList_append_own w hgd s x t ho w.heap.size e i z size bytes ht hi hz hsize hby hzs hsz _ 0 [] hs (World.ownsRow_nil w w.heap.size e size) ad m c news hx hl hnews h1 h63 hbytes (Nat.le_refl _) ?_
    intro v' w' hown hgr _
    exact hK v' w' ((Has.of_owns hown).base_le hbase) hgr (fun g hg => .inr (hown.lt g hg).1)
  · refine wpList_append_arg w hgd s x t ho e i z size bytes ht hi hz hsize hby hzs hsz g off n cap xs hs h.1 hc ad m c news hx hl hnews h1 (fun hroom j hj => hf j ?_) h63 hbytes (fun hroom => ?_) (fun hfull v' w' hown hgr => ?_)
    · have hfits : m * size ≤ (cap - n) * size := Nat.mul_le_mul_right _ (by omega)
      omega
    · obtain ⟨r1, r2⟩ := has_setCells h' hl hroom
      exact hK _ _ r1 r2 (fun g hg => .inl hg)
    · refine hK v' w' ((Has.of_owns hown).base_le hbase) ?_ (fun g hg => .inr (hown.lt g hg).1)
      exact ⟨hgr.os, hgr.tape, hgr.output, hgr.size, fun k hk _ => hgr.block k hk (by simp)⟩

theorem Has.shape {w : World} {base size : Nat} {v : Value} {n : Nat} {xs : List Value} (h : Has w base size v n xs) : ∃ ao cap, v = .slice ao n cap ∧ n ≤ cap := by
  rcases h.2 with ⟨rfl, rfl⟩ | ⟨g, off, cap, rfl, _, _, hle, _⟩
  · exact ⟨_, _, rfl, Nat.le_refl _⟩
  · exact ⟨_, _, rfl, hle⟩

/-- The cells xs lie at ⟨g, off⟩. -/
def Lies (w : World) (g off : Nat) (xs : List Value) : Prop := g < w.heap.size ∧ ∀ j u, xs[j]? = some u → w.cell? ⟨g, off + j, none⟩ = some u
theorem Lies.add {w : World} {g off : Nat} {xs : List Value} (h : Lies w g off xs) : ∀ j u, xs[j]? = some u → w.cell? ((⟨g, off, none⟩ : Addr).add j) = some u := by
  intro j u hj
  have hp : (⟨g, off, none⟩ : Addr).add j = ⟨g, off + j, none⟩ := by unfold Addr.add; split <;> simp_all
  rw [hp]; exact h.2 j u hj
theorem Lies.grown {w w' : World} {g off : Nat} {xs : List Value} {row : Option Nat} (h : Lies w g off xs) (hg : w.grownBy w' row) (hne : row ≠ some g) : Lies w' g off xs :=
  ⟨Nat.lt_of_lt_of_le h.1 hg.size, fun j u hj => by
    rw [World.cell?_of_block (w := w) (hg.block g h.1 (fun e => hne e.symm))]; exact h.2 j u hj⟩
theorem Lies.below {w w' : World} {g off B : Nat} {xs : List Value} (h : Lies w g off xs) (hb : Below B w w') (hg : g < B) : Lies w' g off xs :=
  ⟨Nat.lt_of_lt_of_le h.1 hb.size, fun j u hj => by rw [hb.cell (by exact hg)]; exact h.2 j u hj⟩
theorem Lies.alloc {w : World} {g off : Nat} {xs : List Value} (h : Lies w g off xs) (o : Obj) : Lies (w.alloc o) g off xs :=
  h.below ((Below.refl w.heap.size w).alloc (Nat.le_refl _) o) h.1
theorem ints_one (k : IntKind) (l : List Int) : ∀ u ∈ l.map (Value.int k), u.oneCell' = true := ints_oneCell k l
end Go.Proofs.Ytcgkpgjjifggcaa.Sl
