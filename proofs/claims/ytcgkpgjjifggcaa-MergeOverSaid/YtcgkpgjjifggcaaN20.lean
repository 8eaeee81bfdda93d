/-
  Merge: cells dealt out to lists: what lies in memory.
-/
import Derived.Test.YtcgkpgjjifggcaaN19
import Derived.Deep.OwnRows
namespace Go.Proofs.Ytcgkpgjjifggcaa
set_option linter.unusedVariables false
set_option linter.unusedSimpArgs false
open Go.RowKit Sl

theorem step_append_sl {P : Program} (w : World) {ops : Array Oper} {o : Oper} {a : Act} {K : Act → World → Prop} {Q : Exit → Act → World → Prop} {E : Prop} (hgd : o.guard = none) (d : Option Tmp) (hd : o.dst = d) (s x : Operand) (t : TypeId)
    (ho : o.op = Op.call { callee := Callee.builtin Builtin.append, args := #[s, x], argTypes := #[t, t] })
    (base : Nat) (e : TypeId) (i : TypeInfo) (z : Value) (size bytes : Nat) (ht : P.underlying t = some (.slice e)) (hi : P.info? e = some i) (hz : i.zero = some z) (hsize : i.size = size) (hby : i.bytes = bytes) (hzs : z.cells.size = size) (hsz : 0 < size)
    (v : Value) (n : Nat) (xs : List Value) (hs : a.eval s = v) (h : Has w base size v n xs)
    (ad : Addr) (m c : Nat) (news : List Value) (hx : a.eval x = .slice (some ad) m c) (hl : news.length = m * size) (hnews : ∀ j u, news[j]? = some u → w.cell? (ad.add j) = some u) (h1 : ∀ u ∈ news, u.oneCell' = true)
    (h63 : n + m ≤ maxLen) (hbytes : (n + m) * bytes ≤ 140737488355328) (hbase : base ≤ w.heap.size)
    (hK : ∀ a3 c3 w', Has w' base size (.slice a3 (n + m) c3) (n + m) (xs ++ news) → w.grownBy w' v.ownBlock → (∀ g, (Value.slice a3 (n + m) c3).ownBlock = some g → v.ownBlock = some g ∨ w.heap.size ≤ g) → K (a.put d (.slice a3 (n + m) c3)) w') :
    if Region.wanted o (yielded ops a.tmps) = true then Oper.wp P o a w K Q else E := by
  subst hd
  have hw : Region.wanted o (yielded ops a.tmps) = true := by simp [Region.wanted, hgd]
  rw [if_pos hw]
  obtain ⟨v', w', hr, h2, h3, h4⟩ := run_append_has (P := P) w t o.type base e i z size bytes ht hi hz hsize hby hzs hsz v n xs h ad m c news hl hnews h1 h63 hbytes hbase
  obtain ⟨a3, c3, rfl, -⟩ := h2.shape
  unfold Oper.wp execOp
  simp only [ho, resolve, invoke, builtin, Sem.run_bind, Sem.run_pure, Result.andThen_ok, List.map_toArray, List.map_cons, List.map_nil, hs, hx, hr]
  exact hK a3 c3 w' h2 h3 h4

def slF (A : Nat → Option Addr) (Ds : Nat → List CellR) (C : Nat → Nat) (j : Nat) : Value := .slice (A j) (Ds j).length (C j)
/-- Lists that may grow, behind a row at G. -/
structure Bag (w wr : World) (G n i : Nat) (A : Nat → Option Addr) (Ds : Nat → List CellR) (C : Nat → Nat) : Prop where
  row : wr.rowIs G 22 n (slF A Ds C)
  has : ∀ j, j < n → Has wr (G + 1) 4 (slF A Ds C j) (Ds j).length (flat CellR.cells (Ds j))
  len : ∀ j, j < n → (Ds j).length ≤ i
  apart : ∀ j j', j < n → j' < n → j ≠ j' → ∀ g, (slF A Ds C j).ownBlock = some g → (slF A Ds C j').ownBlock ≠ some g
  bel : Below w.heap.size w wr
  low : w.heap.size ≤ G
def upd {α : Type} (f : Nat → α) (k : Nat) (x : α) (j : Nat) : α := if j = k then x else f j
theorem upd_same {α : Type} (f : Nat → α) (k : Nat) (x : α) : upd f k x k = x := by simp [upd]
theorem upd_ne {α : Type} (f : Nat → α) (k : Nat) (x : α) (j : Nat) (h : j ≠ k) : upd f k x j = f j := by simp [upd, h]
theorem bag_push {w wr W wa : World} {G n i k : Nat} {A : Nat → Option Addr} {Ds : Nat → List CellR} {C : Nat → Nat} (h : Bag w wr G n i A Ds C) (hk : k < n) (hW : Below wr.heap.size wr W) (c : CellR) (a3 : Option Addr) (c3 : Nat)
    (ha : Has wa (G + 1) 4 (.slice a3 ((Ds k).length + 1) c3) ((Ds k).length + 1) (flat CellR.cells (Ds k) ++ c.cells)) (hg : W.grownBy wa (slF A Ds C k).ownBlock)
    (hn : ∀ g, (Value.slice a3 ((Ds k).length + 1) c3).ownBlock = some g → (slF A Ds C k).ownBlock = some g ∨ W.heap.size ≤ g) :
    Bag w (wa.setCell ⟨G, k, none⟩ (.slice a3 ((Ds k).length + 1) c3)) G n (i + 1) (upd A k a3) (upd Ds k (Ds k ++ [c])) (upd C k c3) := by
  have hGl := h.row.lt
  have hs := hW.size
  have hlt : ∀ j, j < n → ∀ g, (slF A Ds C j).ownBlock = some g → G + 1 ≤ g ∧ g < wr.heap.size := fun j hj g hg => (h.has j hj).lt g hg
  have hm1 : Mod (fun b => (slF A Ds C k).ownBlock = some b) wr wa := (Mod.of_below hW (Nat.le_refl _)).trans (Mod.of_grown hg)
  have hm2 : Mod (fun b => b = G ∨ (slF A Ds C k).ownBlock = some b) wr (wa.setCell ⟨G, k, none⟩ (.slice a3 ((Ds k).length + 1) c3)) := (hm1.mono (fun b hb => .inr hb)).trans ((mod_setCell wa G k _).mono (fun b hb => .inl hb))
  have hk' : slF (upd A k a3) (upd Ds k (Ds k ++ [c])) (upd C k c3) k = .slice a3 ((Ds k).length + 1) c3 := by simp [slF, upd_same]
  have hj' : ∀ j, j ≠ k → slF (upd A k a3) (upd Ds k (Ds k ++ [c])) (upd C k c3) j = slF A Ds C j := fun j hj => by simp [slF, upd_ne _ _ _ _ hj]
  refine ⟨?_, fun j hj => ?_, fun j hj => ?_, fun j j' hj hj2 hne g hg1 hg2 => ?_, ?_, h.low⟩
  · have h1 : wa.rowIs G 22 n (slF A Ds C) := h.row.of_block (hm1.block G hGl (fun e => by have := (hlt k hk G e).1; omega))
    refine (h1.set k _).congr (fun j hj => ?_)
    by_cases hjk : j = k
    · rw [hjk, if_pos rfl, hk']
    · rw [if_neg hjk, hj' j hjk]
  · by_cases hjk : j = k
    · subst hjk
      rw [hk', upd_same, flat_snoc, List.length_append]
      exact has_mod (S := fun b => b = G) ha (mod_setCell wa G j _) (fun b hb => by omega)
    · rw [hj' j hjk, upd_ne _ _ _ _ hjk]
      refine (h.has j hj).later hm2.size (fun g hg1 hgl => hm2.block g hgl (fun hs => ?_))
      rcases hs with hs | hs
      · have := (hlt j hj g hg1).1; omega
      · exact h.apart j k hj hk hjk g hg1 hs
  · by_cases hjk : j = k
    · subst hjk; rw [upd_same, List.length_append]; have := h.len j hj; simp; omega
    · rw [upd_ne _ _ _ _ hjk]; have := h.len j hj; omega
  · by_cases hjk : j = k
    · subst hjk
      rw [hk'] at hg1
      rw [hj' j' (Ne.symm hne)] at hg2
      rcases hn g hg1 with e | e
      · exact h.apart j j' hj hj2 hne g e hg2
      · have := (hlt j' hj2 g hg2).2; omega
    · rw [hj' j hjk] at hg1
      by_cases hjk2 : j' = k
      · subst hjk2
        rw [hk'] at hg2
        rcases hn g hg2 with e | e
        · exact h.apart j j' hj hj2 hne g hg1 e
        · have := (hlt j hj g hg1).2; omega
      · rw [hj' j' hjk2] at hg2
        exact h.apart j j' hj hj2 hne g hg1 hg2
  · refine h.bel.trans (hm2.below (fun b hb => ?_) h.bel.size)
    rcases hb with hb | hb
    · rw [hb]; exact h.low
    · have := (hlt k hk b hb).1; have := h.low; omega

/-- Lists behind a row at G; those before i are sorted. -/
structure Bags (w wr : World) (G n i : Nat) (A : Nat → Option Addr) (Ds : Nat → List CellR) (C : Nat → Nat) : Prop where
  row : wr.rowIs G 22 n (slF A Ds C)
  cv : ∀ j, j < n → CV wr (fun b => b ≤ G) (slF A Ds C j) (Ds j)
  srt : ∀ j, j < i → Pl.Srt CellR.ver verLt (Ds j) ∧ (Ds j).length ≤ 60
  bel : Below w.heap.size w wr
  low : w.heap.size ≤ G
theorem bags_of {w wr : World} {G n i : Nat} {A : Nat → Option Addr} {Ds : Nat → List CellR} {C : Nat → Nat} (h : Bag w wr G n i A Ds C) : Bags w wr G n 0 A Ds C :=
  ⟨h.row, fun j hj => (SlV.of_has (h.has j hj)).mono (fun b hb => Nat.lt_succ_of_le hb), fun j hj => absurd hj (Nat.not_lt_zero _), h.bel, h.low⟩
theorem bags_step {w wr w2 : World} {G n i : Nat} {A : Nat → Option Addr} {Ds : Nat → List CellR} {C : Nat → Nat} (h : Bags w wr G n i A Ds C) (hi : i < n) (D : List CellR) (a3 : Option Addr) (c3 : Nat) (hs : Pl.Srt CellR.ver verLt D) (hl : D.length ≤ 60)
    (hh : Has w2 wr.heap.size 4 (.slice a3 D.length c3) D.length (flat CellR.cells D)) (hb : Below wr.heap.size wr w2) :
    Bags w (w2.setCell ⟨G, i, none⟩ (.slice a3 D.length c3)) G n (i + 1) (upd A i a3) (upd Ds i D) (upd C i c3) := by
  have hGl := h.row.lt
  have hm2 : Mod (fun b => b ≤ G) wr (w2.setCell ⟨G, i, none⟩ (.slice a3 D.length c3)) := (Mod.of_below hb (Nat.le_refl _)).trans ((mod_setCell w2 G i _).mono (fun b hb => by omega))
  have hk' : slF (upd A i a3) (upd Ds i D) (upd C i c3) i = .slice a3 D.length c3 := by simp [slF, upd_same]
  have hj' : ∀ j, j ≠ i → slF (upd A i a3) (upd Ds i D) (upd C i c3) j = slF A Ds C j := fun j hj => by simp [slF, upd_ne _ _ _ _ hj]
  refine ⟨?_, fun j hj => ?_, fun j hj => ?_, ?_, h.low⟩
  · have h1 : w2.rowIs G 22 n (slF A Ds C) := h.row.of_block (hb.block G hGl)
    refine (h1.set i _).congr (fun j hj => ?_)
    by_cases hjk : j = i
    · rw [hjk, if_pos rfl, hk']
    · rw [if_neg hjk, hj' j hjk]
  · by_cases hjk : j = i
    · subst hjk
      rw [hk', upd_same]
      have h1 : CV w2 (fun b => b ≤ G) (.slice a3 D.length c3) D := (SlV.of_has hh).mono (fun b hb => by omega)
      exact h1.mod ((mod_setCell w2 G j _).mono (fun b hb => by omega))
    · rw [hj' j hjk, upd_ne _ _ _ _ hjk]
      exact (h.cv j hj).mod hm2
  · by_cases hjk : j = i
    · subst hjk; rw [upd_same]; exact ⟨hs, hl⟩
    · rw [upd_ne _ _ _ _ hjk]; exact h.srt j (by omega)
  · exact (h.bel.trans (hb.mono h.bel.size)).setCell h.low _

def SplitPost (n : Nat) (w : World) (e : Ending) (w' : World) : Prop :=
  ∃ g L, e = .returned (.slice (some ⟨g, 0, none⟩) n n) ∧ L.length = n ∧ Sorted L ∧ (∀ l ∈ L, l.length ≤ 60) ∧ LV w' (fun k => k < w.heap.size) (.slice (some ⟨g, 0, none⟩) n n) L ∧ Below w.heap.size w w'
theorem flat_id (vs : List Value) : flat one vs = vs := by
  induction vs with
  | nil => rfl
  | cons v vs ih => rw [flat_cons, ih]; rfl
theorem bags_done {w wr : World} {G n i : Nat} {A : Nat → Option Addr} {Ds : Nat → List CellR} {C : Nat → Nat} (h : Bags w wr G n i A Ds C) (hi : n ≤ i) (hn : n ≤ maxLen) : SplitPost n w (.returned (.slice (some ⟨G, 0, none⟩) n n)) wr := by
  refine ⟨G, (List.range n).map Ds, rfl, by simp, fun l hl => ?_, fun l hl => ?_, ⟨(List.range n).map (slF A Ds C), by simp, ?_, fun k x l h1 h2 => ?_⟩, h.bel⟩
  · obtain ⟨j, hj, rfl⟩ := List.mem_map.1 hl
    exact (h.srt j (by have := List.mem_range.1 hj; omega)).1
  · obtain ⟨j, hj, rfl⟩ := List.mem_map.1 hl
    exact (h.srt j (by have := List.mem_range.1 hj; omega)).2
  · refine ⟨_, n, by simp, by simp, hn, .inr ⟨G, 0, rfl, by have := h.low; omega, h.row.lt, fun j u hj => ?_⟩⟩
    rw [flat_id] at hj
    obtain ⟨hl, rfl⟩ := List.getElem?_eq_some_iff.1 hj
    rw [Nat.zero_add, h.row.cell (by simpa using hl)]
    simp
  · obtain ⟨hk, rfl⟩ := List.getElem?_eq_some_iff.1 h1
    obtain ⟨hk2, rfl⟩ := List.getElem?_eq_some_iff.1 h2
    simp only [List.getElem_map, List.getElem_range]
    exact (h.cv k (by simpa using hk)).mono (fun b hb => by have := h.low; omega)
end Go.Proofs.Ytcgkpgjjifggcaa
