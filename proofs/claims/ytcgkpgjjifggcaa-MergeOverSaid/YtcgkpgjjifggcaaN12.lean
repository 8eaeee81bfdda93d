/-
  Merge: contracts of slices.Clone at cells and at pairs; of the merger's Left.
-/
import Derived.Test.YtcgkpgjjifggcaaN11
namespace Go.Proofs.Ytcgkpgjjifggcaa
set_option linter.unusedVariables false
set_option linter.unusedSimpArgs false
open Go.RowKit Sl

structure PairR where
  key : ByteArray
  val : ByteArray
  deriving DecidableEq
def PairR.cells (p : PairR) : List Value := [.string p.key, .string p.val]
theorem PairR.cells_len (p : PairR) : p.cells.length = 2 := rfl
theorem PairR.cells_one (c : PairR) : ∀ u ∈ c.cells, u.oneCell' = true := by
  intro u hu
  simp only [PairR.cells, List.mem_cons, List.not_mem_nil, or_false] at hu
  rcases hu with rfl | rfl <;> rfl
structure OpR where
  kind : Int
  key : ByteArray
  val : ByteArray
  deriving DecidableEq
def OpR.cells (p : OpR) : List Value := [.int .i64 p.kind, .string p.key, .string p.val]
theorem OpR.cells_len (p : OpR) : p.cells.length = 3 := rfl
theorem OpR.cells_one (c : OpR) : ∀ u ∈ c.cells, u.oneCell' = true := by
  intro u hu
  simp only [OpR.cells, List.mem_cons, List.not_mem_nil, or_false] at hu
  rcases hu with rfl | rfl | rfl <;> rfl
theorem Try.infoCell : (Try.prog.info? 42).map (fun i => (i.zero, i.size, i.bytes)) = some (some (.agg #[.string ⟨#[]⟩, .int .i64 0, .int .i64 0, .string ⟨#[]⟩]), 4, 48) := by kernel_rfl
theorem Try.infoPair : (Try.prog.info? 49).map (fun i => (i.zero, i.size, i.bytes)) = some (some (.agg #[.string ⟨#[]⟩, .string ⟨#[]⟩]), 2, 32) := by kernel_rfl
theorem Try.infoOp : (Try.prog.info? 68).map (fun i => (i.zero, i.size, i.bytes)) = some (some (.agg #[.int .i64 0, .string ⟨#[]⟩, .string ⟨#[]⟩]), 3, 40) := by kernel_rfl
theorem Try.infoRun : (Try.prog.info? 62).map (fun i => (i.zero, i.size, i.bytes)) = some (some (.agg #[.slice none 0 0, .int .i64 0]), 2, 32) := by kernel_rfl
theorem Try.infoCells : (Try.prog.info? 22).map (fun i => (i.zero, i.size, i.bytes)) = some (some (.slice none 0 0), 1, 24) := by kernel_rfl

/-- A slice's row, where it has one. -/
theorem SlV.row {α : Type} {enc : α → List Value} {w : World} {S : Nat → Prop} {ao : Option Addr} {n cap : Nat} {l : List α} (h : SlV enc w S (.slice ao n cap) l) :
    (ao = none → n = 0) ∧ ∀ ad, ao = some ad → ∀ j u, (flat enc l)[j]? = some u → w.cell? (ad.add j) = some u := by
  obtain ⟨ao', cap', h1, h2, h3, h4⟩ := h
  simp only [Value.slice.injEq] at h1
  obtain ⟨rfl, rfl, rfl⟩ := h1
  rcases h4 with rfl | ⟨b, o, rfl, h6, h7, h8⟩
  · exact ⟨fun _ => rfl, fun ad _ j u hj => by simp [flat] at hj⟩
  · refine ⟨fun e => by simp at e, fun ad e j u hj => ?_⟩
    cases e
    have hp : (⟨b, o, none⟩ : Addr).add j = ⟨b, o + j, none⟩ := by unfold Addr.add; split <;> simp_all
    rw [hp]; exact h8 j u hj
theorem Has.empty (w : World) (base size g cap : Nat) (hg : base ≤ g) (hl : g < w.heap.size) (hc : cap = 0) : Has w base size (.slice (some ⟨g, 0, none⟩) 0 cap) 0 [] :=
  ⟨by simp, .inr ⟨g, 0, cap, rfl, hg, hl, Nat.zero_le _, by subst hc; unfold maxLen; omega, fun j u hj => by simp at hj, fun j hj => by subst hc; simp at hj⟩⟩

set_option maxHeartbeats 1600000 in
theorem clone_ok (v : Value) (l : List CellR) (S : Nat → Prop) (w : World) (h : CV w S v l) (hbig : l.length ≤ 1000000) :
    Calls Try.prog 29 #[v] w fun e w' => ∃ v', e = .returned v' ∧ Has w' w.heap.size 4 v' l.length (flat CellR.cells l) ∧ Below w.heap.size w w' := by
  obtain ⟨i0, hi, hz0, hz1, hz2⟩ := info_parts Try.infoCell
  obtain ⟨ao, cap, hv⟩ := h.shape
  obtain ⟨n, hn⟩ : ∃ n, l.length = n := ⟨_, rfl⟩
  rw [hn] at hv hbig
  subst hv
  obtain ⟨-, h2, h3⟩ := SlV.len h
  unfold maxLen at h3
  have HV := Lib.hid h
  have HN := Lib.hid hn
  clear h hn
  cases ao with
  | none =>
    obtain rfl := (SlV.row HV.out).1 rfl
    have hnil := fun (w : World) => Lib.run_eql_slice_nil (P := Try.prog) w 22 42 none 0 cap 0 0 Try.underlying22
    go_enter Try.func29, Try.ntmps29
    go_wp2
    go_ret
    refine ⟨_, rfl, ?_, Below.refl _ _⟩
    have : l = [] := List.length_eq_zero_iff.1 HN.out
    subst this
    exact Has.nil _ _ _
  | some ad =>
    have hnil := fun (w : World) => Lib.run_eql_slice_nil (P := Try.prog) w 22 42 (some ad) n cap 0 0 Try.underlying22
    go_enter Try.func29, Try.ntmps29
    go_wp2_with (at_builtin; refine wpList_append_view _ rfl (.tmp 5) (.tmp 6) 22 rfl w.heap.size 42 i0 (.agg #[.string ⟨#[]⟩, .int .i64 0, .int .i64 0, .string ⟨#[]⟩]) 4 48 Try.underlying22 hi hz0 hz1 hz2 rfl (by decide) (.slice (some ⟨w.heap.size, 0, none⟩) 0 0) 0 [] rfl (Has.empty _ _ _ _ _ (Nat.le_refl _) ?p0 rfl) (some ad) n cap (flat CellR.cells l) rfl ?p1 ?p2 ?p3 ?p4 ?p5 ?p6 ?p7 ?_)
    case p0 => simp
    case p1 => rw [flat_len CellR.cells 4 CellR.cells_len, HN.out]
    case p2 => intro e; cases e
    case p3 =>
      intro a ha j u hj
      exact (SlV.row (HV.out.below ((Below.refl _ _).alloc (Nat.le_refl _) _))).2 a ha j u hj
    case p4 => exact flat_one CellR.cells CellR.cells_one l
    case p5 => unfold maxLen; omega
    case p6 => omega
    case p7 => simp
    intro v' w1 hh hg hb
    go_wp2
    go_ret
    exact ⟨v', rfl, by rw [HN.out]; exact hh, ((Below.refl _ _).alloc (Nat.le_refl _) _).grown hg (by simp) (fun k hk => by simp [Value.ownBlock] at hk; omega)⟩
set_option maxHeartbeats 1600000 in
theorem clonePairs_ok (v : Value) (l : List PairR) (S : Nat → Prop) (w : World) (h : SlV PairR.cells w S v l) (hbig : l.length ≤ 1000000) :
    Calls Try.prog 33 #[v] w fun e w' => ∃ v', e = .returned v' ∧ Has w' w.heap.size 2 v' l.length (flat PairR.cells l) ∧ Below w.heap.size w w' := by
  obtain ⟨i0, hi, hz0, hz1, hz2⟩ := info_parts Try.infoPair
  obtain ⟨ao, cap, hv⟩ := h.shape
  obtain ⟨n, hn⟩ : ∃ n, l.length = n := ⟨_, rfl⟩
  rw [hn] at hv hbig
  subst hv
  obtain ⟨-, h2, h3⟩ := SlV.len h
  unfold maxLen at h3
  have HV := Lib.hid h
  have HN := Lib.hid hn
  clear h hn
  cases ao with
  | none =>
    obtain rfl := (SlV.row HV.out).1 rfl
    have hnil := fun (w : World) => Lib.run_eql_slice_nil (P := Try.prog) w 46 49 none 0 cap 0 0 Try.underlying46
    go_enter Try.func33, Try.ntmps33
    go_wp2
    go_ret
    refine ⟨_, rfl, ?_, Below.refl _ _⟩
    have : l = [] := List.length_eq_zero_iff.1 HN.out
    subst this
    exact Has.nil _ _ _
  | some ad =>
    have hnil := fun (w : World) => Lib.run_eql_slice_nil (P := Try.prog) w 46 49 (some ad) n cap 0 0 Try.underlying46
    go_enter Try.func33, Try.ntmps33
    go_wp2_with (at_builtin; refine wpList_append_view _ rfl (.tmp 5) (.tmp 6) 46 rfl w.heap.size 49 i0 (.agg #[.string ⟨#[]⟩, .string ⟨#[]⟩]) 2 32 Try.underlying46 hi hz0 hz1 hz2 rfl (by decide) (.slice (some ⟨w.heap.size, 0, none⟩) 0 0) 0 [] rfl (Has.empty _ _ _ _ _ (Nat.le_refl _) ?p0 rfl) (some ad) n cap (flat PairR.cells l) rfl ?p1 ?p2 ?p3 ?p4 ?p5 ?p6 ?p7 ?_)
    case p0 => simp
    case p1 => rw [flat_len PairR.cells 2 PairR.cells_len, HN.out]
    case p2 => intro e; cases e
    case p3 =>
      intro a ha j u hj
      exact (SlV.row (HV.out.below ((Below.refl _ _).alloc (Nat.le_refl _) _))).2 a ha j u hj
    case p4 => exact flat_one PairR.cells PairR.cells_one l
    case p5 => unfold maxLen; omega
    case p6 => omega
    case p7 => simp
    intro v' w1 hh hg hb
    go_wp2
    go_ret
    exact ⟨v', rfl, by rw [HN.out]; exact hh, ((Below.refl _ _).alloc (Nat.le_refl _) _).grown hg (by simp) (fun k hk => by simp [Value.ownBlock] at hk; omega)⟩
end Go.Proofs.Ytcgkpgjjifggcaa
