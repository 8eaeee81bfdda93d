/-
  Merge: contract of Over.
-/
import Derived.Test.YtcgkpgjjifggcaaN37
namespace Go.Proofs.Ytcgkpgjjifggcaa
set_option linter.unusedVariables false
set_option linter.unusedSimpArgs false
open Go.RowKit Sl

theorem OV.of {w : World} {S : Nat → Prop} {ao : Option Addr} {n cap : Nat} {l : List OpR} (h : SlV OpR.cells w S (.slice ao n cap) l) (hne : 0 < n) :
    ∃ b o, ao = some ⟨b, o, none⟩ ∧ ¬ S b ∧ b < w.heap.size ∧ ∀ k c, l[k]? = some c → w.cell? ⟨b, o + k * 3, none⟩ = some (.int .i64 c.kind) ∧ w.cell? ⟨b, o + k * 3 + 1, none⟩ = some (.string c.key) ∧ w.cell? ⟨b, o + k * 3 + 2, none⟩ = some (.string c.val) := by
  have hl := (SlV.len h).1
  obtain ⟨b, o, cap', h1, h2, h3, h4, h5, h6⟩ := SlV.at OpR.cells_len h (fun e => by rw [e] at hl; simp at hl; omega)
  simp only [Value.slice.injEq] at h1
  refine ⟨b, o, h1.1, h4, h5, fun k c hk => ?_⟩
  obtain ⟨hk1, rfl⟩ := List.getElem?_eq_some_iff.1 hk
  exact ⟨h6 k hk1 0 _ (by omega) rfl, h6 k hk1 1 _ (by omega) rfl, h6 k hk1 2 _ (by omega) rfl⟩
def putP (o : OpR) : List PairR := if o.kind = 1 then [⟨o.key, o.val⟩] else []
theorem putP_key : ∀ o, ∀ p ∈ putP o, PairR.key p = OpR.key o := fun o p hp => by
  unfold putP at hp
  split at hp
  · simp at hp; rw [hp]
  · simp at hp
theorem putP_len : ∀ o, (putP o).length ≤ 1 := fun o => by unfold putP; split <;> simp
abbrev overP (l : List PairR) (ops : List OpR) : List PairR := Pl.overAll bl PairR.key OpR.key putP l ops
theorem take_snocG {α : Type} (l : List α) (k : Nat) (c : α) (h : l[k]? = some c) : l.take (k + 1) = l.take k ++ [c] := by rw [List.take_add_one, h]; rfl
theorem overP_snoc (l : List PairR) (ops : List OpR) (k : Nat) (o : OpR) (h : ops[k]? = some o) : overP l (ops.take (k + 1)) = Pl.over1 bl PairR.key OpR.key putP (overP l (ops.take k)) o := by
  unfold overP
  rw [take_snocG ops k o h, Pl.overAll_snoc]
theorem overP_srt (l : List PairR) (h : Pl.Srt PairR.key bl l) (ops : List OpR) : Pl.Srt PairR.key bl (overP l ops) := Pl.overAll_srt bl PairR.key OpR.key putP bl_ord putP_key putP_len ops l h
/-- What the search found is the place. -/
theorem over_found (E : List PairR) (o : OpR) (hs : Pl.Srt PairR.key bl E) (n i : Nat) (b : Bool) (hn : E.length = n) (hi : i ≤ n) (h1 : ∀ t x, t < i → E[t]? = some x → bl x.key o.key = true) (h2 : b = true → ∃ x, E[i]? = some x ∧ x.key = o.key) (h3 : b = false → ∀ x, E[i]? = some x → bl o.key x.key = true) :
    Pl.over1 bl PairR.key OpR.key putP E o = E.take i ++ (putP o ++ E.drop (if b then i + 1 else i)) ∧ (b = true → i < n) := by
  refine ⟨Pl.over1_at bl PairR.key OpR.key putP bl_ord E o hs i (by omega) (fun p hp => ?_) b (fun hb => ?_) (fun hb p r hd => ?_), fun hb => ?_⟩
  · obtain ⟨t, ht, rfl⟩ := List.mem_iff_getElem.1 hp
    rw [List.length_take] at ht
    refine h1 t _ (by omega) ?_
    rw [List.getElem_take]
    exact List.getElem?_eq_getElem (by omega)
  · obtain ⟨x, hx, hk⟩ := h2 hb
    obtain ⟨hx1, rfl⟩ := List.getElem?_eq_some_iff.1 hx
    exact ⟨E[i], E.drop (i + 1), List.drop_eq_getElem_cons hx1, hk⟩
  · refine h3 hb p ?_
    have := congrArg (fun l => l[0]?) hd
    simpa using this
  · obtain ⟨x, hx, hk⟩ := h2 hb
    obtain ⟨hx1, -⟩ := List.getElem?_eq_some_iff.1 hx
    omega
theorem own2_shape {w : World} {base : Nat} {v : Value} {l : List PairR} (h : Own2 w base v l) : ∃ a c, v = .slice a l.length c ∧ (∀ g, v.ownBlock = some g → base ≤ g ∧ g < w.heap.size) := by
  obtain ⟨a, c, hv⟩ := ownsRow_shape h
  exact ⟨a, c, hv, fun g hg => h.lt g hg⟩
/-- One change: taken out, put in. -/
theorem put_in (E : List PairR) (o : OpR) (i : Nat) (h1 : o.kind = 1) (F : List PairR) (hF : F = E.take i ++ E.drop (i + 1)) (hi : i < E.length) : F.take i ++ ((⟨o.key, o.val⟩ : PairR) :: F.drop i) = E.take i ++ (putP o ++ E.drop (i + 1)) := by
  have ht : (E.take i).length = i := by rw [List.length_take]; omega
  have e1 : F.take i = E.take i := by rw [hF]; exact List.take_left' ht
  have e2 : F.drop i = E.drop (i + 1) := by rw [hF]; exact List.drop_left' ht
  rw [e1, e2, putP, if_pos h1]
  rfl
theorem put_in0 (E : List PairR) (o : OpR) (i : Nat) (h1 : o.kind = 1) : E.take i ++ ((⟨o.key, o.val⟩ : PairR) :: E.drop i) = E.take i ++ (putP o ++ E.drop i) := by rw [putP, if_pos h1]; rfl
theorem pairBox_new (w : World) (key val : ByteArray) : PairBox (w.alloc (.cells #[.string key, .string val] 49)) w.heap.size ⟨key, val⟩ := ⟨by show (w.heap.push _)[w.heap.size]? = _; simp⟩
def OverPost (D : List PairR) (mD : Nat) (w : World) (e : Ending) (w' : World) : Prop := ∃ a c, e = .returned (.slice a mD c) ∧ Own2 w' w.heap.size (.slice a mD c) D ∧ Below w.heap.size w w'
end Go.Proofs.Ytcgkpgjjifggcaa
