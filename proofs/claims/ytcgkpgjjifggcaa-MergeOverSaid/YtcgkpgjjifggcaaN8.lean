/-
  Merge: what a merger holds; contracts of take, Next, Left.
-/
import Derived.Test.YtcgkpgjjifggcaaN7
namespace Go.Proofs.Ytcgkpgjjifggcaa
set_option linter.unusedVariables false
set_option linter.unusedSimpArgs false
open Go.RowKit Sl

/-- The merger at block M, its memory in blocks B to E, still has the row T. -/
def Mg (w : World) (M B E : Nat) (T : List (CellR × Nat)) : Prop :=
  B ≤ M ∧ M < E ∧ E ≤ w.heap.size ∧ w.frozen? ⟨M, 0, none⟩ = false ∧
  ((T = [] ∧ w.cell? ⟨M, 0, none⟩ = some (.slice none 0 0)) ∨
   ∃ g cap H, B ≤ g ∧ g < E ∧ Hp w M g cap E H ∧ Pl.HeapFrom runLt 0 H.length H ∧ Full H.length H ∧ Pl.RowOf CellR.ver verLt T H ∧ (∀ r ∈ H, Pl.Srt CellR.ver verLt r.1) ∧ H.length ≤ 1000000)
def Mid (B E : Nat) (k : Nat) : Prop := B ≤ k ∧ k < E
theorem Mg.later {w w' : World} {M B E : Nat} {T : List (CellR × Nat)} (h : Mg w M B E T) (hb : Below E w w') : Mg w' M B E T := by
  obtain ⟨h1, h2, h3, hf, h4⟩ := h
  refine ⟨h1, h2, Nat.le_trans h3 hb.size, by rw [hb.frozen (p := ⟨M, 0, none⟩) (by exact h2)]; exact hf, ?_⟩
  rcases h4 with ⟨a, b⟩ | ⟨g, cap, H, a, b, c, d⟩
  · exact .inl ⟨a, by rw [hb.cell (p := ⟨M, 0, none⟩) (by exact h2)]; exact b⟩
  · exact .inr ⟨g, cap, H, a, b, c.low h2 b hb, d⟩
theorem full_perm {H K : List RunR} (h : Full H.length H) (p : K.Perm H) : ∀ r ∈ K, r.1 ≠ [] := by
  intro r hr
  have := p.mem_iff.1 hr
  obtain ⟨k, hk, rfl⟩ := List.getElem_of_mem this
  exact h k _ hk (by simp)
theorem Mg.open {w : World} {M B E : Nat} {d : CellR} {j : Nat} {V : List (CellR × Nat)} (h : Mg w M B E ((d, j) :: V)) :
    ∃ g cap l H, B ≤ g ∧ g < E ∧ Hp w M g cap E ((d :: l, j) :: H) ∧ Pl.HeapFrom runLt 0 (H.length + 1) ((d :: l, j) :: H) ∧ Full (H.length + 1) ((d :: l, j) :: H) ∧ Pl.RowOf CellR.ver verLt V ((l, j) :: H) ∧
      (∀ r ∈ (l, j) :: H, Pl.Srt CellR.ver verLt r.1) ∧ H.length + 1 ≤ 1000000 := by
  obtain ⟨h1, h2, h3, hf, h4⟩ := h
  rcases h4 with ⟨a, b⟩ | ⟨g, cap, H, a, b, c, d1, e, f, hs, hbig⟩
  · cases a
  · cases H with
    | nil =>
      have := f.2.length_eq
      simp [Pl.cellsOf] at this
    | cons r H =>
      obtain ⟨l0, i0⟩ := r
      cases l0 with
      | nil => exact absurd rfl (e 0 _ (by simp) rfl)
      | cons c0 l =>
        have hs0 := hs _ (List.mem_cons_self ..)
        have hmin : ∀ r ∈ H, ∀ d m, r.1 = d :: m → Pl.lt2 CellR.ver verLt (d, r.2) (c0, i0) = false := by
          intro r hr d m hdm
          obtain ⟨k, hk, hk2⟩ := List.getElem_of_mem hr
          have := Pl.heap_min runLt runLt_weak _ _ (Nat.le_refl _) d1 (c0 :: l, i0) rfl (runLt_irr _) (k + 1) r (by simpa using hk) (by simp [hk, hk2])
          unfold runLt hd at this
          rw [hdm] at this
          exact this
        obtain ⟨U, hU, hR⟩ := Pl.rowOf_take CellR.ver verLt verLt_ord c0 l i0 H _ f hs0 (fun r hr => hs r (by simp [hr])) hmin
        injection hU with hU1 hU2
        injection hU1 with hU3 hU4
        subst hU2 hU3 hU4
        refine ⟨g, cap, l, H, a, b, c, d1, e, hR, ?_, hbig⟩
        intro r hr
        rcases List.mem_cons.1 hr with rfl | hr
        · exact (List.pairwise_cons.1 hs0).2
        · exact hs r (by simp [hr])

theorem mg_take (w : World) (M B E : Nat) (c : CellR) (i : Nat) (U : List (CellR × Nat)) (h : Mg w M B E ((c, i) :: U)) :
    Calls Try.prog 31 #[.pointer (some ⟨M, 0, none⟩)] w fun e w' => e = .returned c.value ∧ Mg w' M B E U ∧ Mod (Mid B E) w w' := by
  obtain ⟨g, cap, l, H, a, b, hp, hheap, hF, hR, hs, hbig⟩ := h.open
  obtain ⟨h1, h2, h3, hf, _⟩ := h
  have hmid : ∀ k, Own M g k → Mid B E k := fun k hk => by rcases hk with rfl | rfl <;> exact ⟨by omega, by omega⟩
  by_cases hl : l = []
  · subst hl
    refine (take_last M g cap E c i H w h2 b h3 hp hheap hF hbig).mono ?_
    rintro e w' ⟨rfl, H', p1, p2, p3, p4, p5⟩
    have hlen := p2.length_eq
    refine ⟨rfl, ⟨h1, h2, Nat.le_trans h3 p5.size, p1.topf, .inr ⟨g, cap, H', a, b, p1, by rw [hlen]; exact p3, by rw [hlen]; exact p4, Pl.rowOf_perm _ _ ((Pl.rowOf_empty _ _ _ _ _).1 hR) p2.symm, fun r hr => hs r (by simp [p2.mem_iff.1 hr]), by omega⟩⟩, p5.mono hmid⟩
  · refine (take_more M g cap E c l i H w h2 b h3 hp hheap hF hl hbig).mono ?_
    rintro e w' ⟨rfl, H', p1, p2, p3, p4, p5⟩
    have hlen : H'.length = H.length + 1 := p2.length_eq
    refine ⟨rfl, ⟨h1, h2, Nat.le_trans h3 p5.size, p1.topf, .inr ⟨g, cap, H', a, b, p1, by rw [hlen]; exact p3, by rw [hlen]; exact p4, Pl.rowOf_perm _ _ hR p2.symm, fun r hr => hs r (p2.mem_iff.1 hr), by omega⟩⟩, p5.mono hmid⟩
theorem Mg.head {w : World} {M B E : Nat} {d : CellR} {j : Nat} {V : List (CellR × Nat)} (h : Mg w M B E ((d, j) :: V)) :
    ∃ g n cap bb o m cc, 0 < n ∧ n ≤ cap ∧ cap ≤ maxLen ∧ w.cell? ⟨M, 0, none⟩ = some (.slice (some ⟨g, 0, none⟩) n cap) ∧ w.cell? ⟨g, 0, none⟩ = some (.slice (some ⟨bb, o, none⟩) (m + 1) cc) ∧ m + 1 ≤ cc ∧ cc ≤ maxLen ∧
      w.cell? ⟨bb, o, none⟩ = some (.string d.ver.key) ∧ w.cell? ⟨bb, o + 1, none⟩ = some (.int .i64 d.ver.seq) ∧ w.cell? ⟨bb, o + 2, none⟩ = some (.int .i64 d.ver.kind) := by
  obtain ⟨g, cap, l, H, a, b, hp, _⟩ := h.open
  obtain ⟨v, x, y, ao, cc, hv, hcap1, hcap2, hr⟩ := hp.els.el 0 (by simp)
  rcases hr with hr | ⟨bb, o, rfl, hb, hcs⟩
  · simp at hr
  obtain ⟨x1, x2, x3, x4⟩ := hcs.2 0 (by simp)
  subst hv
  simp only [List.getElem_cons_zero, Nat.zero_mul, Nat.add_zero, List.length_cons] at x1 x2 x3 x4 x hcap1
  exact ⟨g, _, cap, bb, o, _, cc, by simp, hp.le, hp.max, hp.top, x, hcap1, hcap2, x1, x2, x3⟩
theorem Mg.nil {w : World} {M B E : Nat} (h : Mg w M B E []) : ∃ ao cap, w.cell? ⟨M, 0, none⟩ = some (.slice ao 0 cap) := by
  obtain ⟨h1, h2, h3, hf, h4⟩ := h
  rcases h4 with ⟨_, a⟩ | ⟨g, cap, H, a, b, hp, d1, e, f, hs, hbig⟩
  · exact ⟨_, _, a⟩
  · cases H with
    | nil => exact ⟨_, _, hp.top⟩
    | cons r H =>
      obtain ⟨l0, i0⟩ := r
      cases l0 with
      | nil => exact absurd rfl (e 0 _ (by simp) rfl)
      | cons c0 l =>
        have := f.2.length_eq
        simp [Pl.cellsOf] at this
end Go.Proofs.Ytcgkpgjjifggcaa
