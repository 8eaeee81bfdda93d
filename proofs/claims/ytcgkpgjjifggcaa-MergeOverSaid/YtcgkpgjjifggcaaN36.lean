/-
  Merge: contract of slices.Insert of one pair.
-/
import Derived.Test.YtcgkpgjjifggcaaN35
namespace Go.Proofs.Ytcgkpgjjifggcaa
set_option linter.unusedVariables false
set_option linter.unusedSimpArgs false
open Go.RowKit Sl

theorem Try.info49s : (Try.prog.info? 49).map (·.size) = some 2 := by kernel_rfl
theorem wpList_copy_run {P : Program} (w : World) {ops : Array Oper} {rest : List Oper} {o : Oper} {a : Act} {Q : Exit → Act → World → Prop} (hgd : o.guard = none) (d s : Operand) (t t' : TypeId)
    (ho : o.op = .call { callee := .builtin .copy, args := #[d, s], argTypes := #[t, t'] }) (v u : Value) (hd : a.eval d = v) (hs : a.eval s = u) {v' : Value} {w' : World}
    (hr : ∀ ty, (Builtin.copy_ #[t, t'] ty #[v, u]).run P w = .ok v' w') (h : wpList P ops Q rest (a.put o.dst v') w') : wpList P ops Q (o :: rest) a w :=
  wpList_plain hgd fun _ hK => by
    unfold Oper.wp execOp
    simp only [ho, resolve, invoke, builtin, Sem.run_bind, Sem.run_pure, Result.andThen_ok, List.map_toArray, List.map_cons, List.map_nil, hd, hs, hr]
    exact hK _ _ h
theorem step_copy_run {P : Program} {ops : Array Oper} {o : Oper} {a : Act} {w : World} {K : Act → World → Prop} {Q : Exit → Act → World → Prop} {E : Prop}
    (hg : o.guard = none) (dd : Option Tmp) (hdd : o.dst = dd) (d x : Operand) (dT sT : TypeId) (hop : o.op = Op.call { callee := Callee.builtin Builtin.copy, args := #[d, x], argTypes := #[dT, sT] })
    (v u : Value) (hd : a.eval d = v) (hx : a.eval x = u) {v' : Value} {w' : World} (hr : ∀ ty, (Builtin.copy_ #[dT, sT] ty #[v, u]).run P w = .ok v' w') (hK : K (a.put dd v') w') :
    if Region.wanted o (yielded ops a.tmps) = true then Oper.wp P o a w K Q else E := by
  subst hdd
  have hw : Region.wanted o (yielded ops a.tmps) = true := by simp [Region.wanted, hg]
  rw [if_pos hw]
  unfold Oper.wp
  simp [execOp, hop, resolve, invoke, builtin, hd, hx, hr, Result.andThen]
  exact hK
/-- The one new pair lies in a block of its own. -/
structure PairBox (w : World) (vb : Nat) (p : PairR) : Prop where
  blk : w.heap[vb]? = some (.cells #[.string p.key, .string p.val] 49 (0, 0))
theorem PairBox.lt {w : World} {vb : Nat} {p : PairR} (h : PairBox w vb p) : vb < w.heap.size := (Array.getElem?_eq_some_iff.1 h.blk).1
theorem PairBox.news {w : World} {vb : Nat} {p : PairR} (h : PairBox w vb p) : ∀ j u, (PairR.cells p)[j]? = some u → w.cell? ((⟨vb, 0, none⟩ : Addr).add j) = some u :=
  news_pair w vb p (by rw [cell_of_row w vb 0 _ 49 (0, 0) h.blk]; rfl) (by rw [cell_of_row w vb 1 _ 49 (0, 0) h.blk]; rfl)
def InsPost (l : List PairR) (i : Nat) (p : PairR) (base : Nat) (v : Value) (w : World) (e : Ending) (w' : World) : Prop :=
  ∃ a c, e = .returned (.slice a (l.length + 1) c) ∧ Own2 w' base (.slice a (l.length + 1) c) (l.take i ++ (p :: l.drop i)) ∧ Mod (fun k => v.ownBlock = some k) w w'

set_option maxHeartbeats 3200000 in
theorem insert_end (v : Value) (n base vb : Nat) (l : List PairR) (p : PairR) (w : World) (h : Own2 w base v l) (hl : l.length = n) (hbig : n ≤ 1000000) (hb : PairBox w vb p) (hbase : base ≤ w.heap.size) :
    Calls Try.prog 38 #[v, .int .i64 n, .slice (some ⟨vb, 0, none⟩) 1 1] w (InsPost l n p base v w) := by
  obtain ⟨i0, hi0, hz0, hz1, hz2⟩ := info_parts Try.infoPair
  obtain ⟨ao, cap, hv⟩ := h.sl.shape
  obtain ⟨-, hle, hm⟩ := SlV.len (hv ▸ h.sl : SlV PairR.cells w _ (.slice ao l.length cap) l)
  rw [hl] at hv hle
  subst hv
  have HO := Lib.hid h
  have HN := Lib.hid hl
  have HBX := Lib.hid hb
  unfold maxLen at hm
  clear h hl hb
  by_cases hcn : cap = n
  · obtain rfl : n = cap := hcn.symm
    clear hcn
    go_enter Try.func38, Try.ntmps38
    go_wp2_with (at_builtin; refine wpList_append_own _ rfl (.tmp 23) (.tmp 24) 46 rfl base 49 i0 (.agg #[.string ⟨#[]⟩, .string ⟨#[]⟩]) 2 32 Try.underlying46 hi0 hz0 hz1 hz2 rfl (by decide) (.slice ao n n) n (flat PairR.cells l) rfl (by have := HO.out; unfold Own2 at this; rw [HN.out] at this; exact this) ⟨vb, 0, none⟩ 1 1 p.cells rfl rfl ?p3 ?p4 ?p5 ?p6 ?p7 ?_)
    case p3 => exact HBX.out.news
    case p4 => exact PairR.cells_one p
    case p5 => unfold maxLen; omega
    case p6 => omega
    case p7 => exact hbase
    intro v' w1 hh hg hb'
    obtain ⟨a8, c8, rfl⟩ := ownsRow_shape hh
    go_wp2
    go_ret
    refine ⟨a8, c8, by rw [HN.out]; rfl, ?_, Mod.of_grown hg⟩
    have e1 : l.take n ++ (p :: l.drop n) = l ++ [p] := by rw [List.take_of_length_le (by rw [HN.out]; exact Nat.le_refl _), List.drop_of_length_le (by rw [HN.out]; exact Nat.le_refl _)]
    unfold Own2
    rw [e1, List.length_append, flat_snoc, HN.out]
    exact hh
  · go_enter Try.func38, Try.ntmps38
    go_wp2_with (at_builtin; refine wpList_append_own _ rfl (.tmp 23) (.tmp 24) 46 rfl base 49 i0 (.agg #[.string ⟨#[]⟩, .string ⟨#[]⟩]) 2 32 Try.underlying46 hi0 hz0 hz1 hz2 rfl (by decide) (.slice ao n cap) n (flat PairR.cells l) rfl (by have := HO.out; unfold Own2 at this; rw [HN.out] at this; exact this) ⟨vb, 0, none⟩ 1 1 p.cells rfl rfl ?q3 ?q4 ?q5 ?q6 ?q7 ?_)
    case q3 => exact HBX.out.news
    case q4 => exact PairR.cells_one p
    case q5 => unfold maxLen; omega
    case q6 => omega
    case q7 => exact hbase
    intro v' w1 hh hg hb'
    obtain ⟨a8, c8, rfl⟩ := ownsRow_shape hh
    go_wp2
    go_ret
    refine ⟨a8, c8, by rw [HN.out]; rfl, ?_, Mod.of_grown hg⟩
    have e1 : l.take n ++ (p :: l.drop n) = l ++ [p] := by rw [List.take_of_length_le (by rw [HN.out]; exact Nat.le_refl _), List.drop_of_length_le (by rw [HN.out]; exact Nat.le_refl _)]
    unfold Own2
    rw [e1, List.length_append, flat_snoc, HN.out]
    exact hh

/-- Cells of a row written at two places: one more, at i. -/
theorem ins_cells {w2 : World} {g i n : Nat} {l : List PairR} {p : PairR} (hl : l.length = n) (hi : i ≤ n) (h1 : ∀ j u, j < i * 2 → (flat PairR.cells l)[j]? = some u → w2.cell? ⟨g, j, none⟩ = some u)
    (h2 : ∀ j u, p.cells[j]? = some u → w2.cell? ⟨g, i * 2 + j, none⟩ = some u) (h3 : ∀ j u, (flat PairR.cells (l.drop i))[j]? = some u → w2.cell? ⟨g, (i + 1) * 2 + j, none⟩ = some u) :
    ∀ j u, (flat PairR.cells (l.take i ++ (p :: l.drop i)))[j]? = some u → w2.cell? ⟨g, j, none⟩ = some u := by
  have htl : (flat PairR.cells (l.take i)).length = i * 2 := by rw [flat_len PairR.cells 2 PairR.cells_len, List.length_take, hl, Nat.min_eq_left hi]
  have hsplit : flat PairR.cells l = flat PairR.cells (l.take i) ++ flat PairR.cells (l.drop i) := by rw [← flat_app, List.take_append_drop]
  intro j u hj
  rw [flat_app, flat_cons] at hj
  by_cases hji : j < i * 2
  · rw [List.getElem?_append_left (by rw [htl]; exact hji)] at hj
    exact h1 j u hji (by rw [hsplit, List.getElem?_append_left (by rw [htl]; exact hji)]; exact hj)
  · rw [List.getElem?_append_right (by rw [htl]; omega), htl] at hj
    by_cases hj2 : j - i * 2 < 2
    · rw [List.getElem?_append_left (by exact hj2)] at hj
      have := h2 _ u hj
      rw [show i * 2 + (j - i * 2) = j by omega] at this
      exact this
    · rw [List.getElem?_append_right (by show 2 ≤ _; omega)] at hj
      have := h3 _ u hj
      rw [show p.cells.length = 2 from rfl, show (i + 1) * 2 + (j - i * 2 - 2) = j by omega] at this
      exact this

set_option maxHeartbeats 6400000 in
theorem insert_room (g cap n i base vb : Nat) (l : List PairR) (p : PairR) (w : World) (h : Own2 w base (.slice (some ⟨g, 0, none⟩) n cap) l) (hl : l.length = n) (hi : i < n) (hroom : n + 1 ≤ cap) (hbig : n ≤ 1000000) (hb : PairBox w vb p) (hne : vb ≠ g) :
    Calls Try.prog 38 #[.slice (some ⟨g, 0, none⟩) n cap, .int .i64 i, .slice (some ⟨vb, 0, none⟩) 1 1] w (InsPost l i p base (.slice (some ⟨g, 0, none⟩) n cap) w) := by
  obtain ⟨g', cap', cur, e1, hB, hgl, hh, hle, hm, hcs, hc, hsome, hfr⟩ := own_parts h (by rw [hl]; omega)
  simp only [Value.slice.injEq, Option.some.injEq, Addr.mk.injEq, and_true] at e1
  obtain ⟨rfl, -, rfl⟩ := e1
  have hvl := hb.lt
  have hcl : (flat PairR.cells l).length = n * 2 := by rw [flat_len PairR.cells 2 PairR.cells_len, hl]
  have htl : (flat PairR.cells (l.take i)).length = i * 2 := by rw [flat_len PairR.cells 2 PairR.cells_len, List.length_take, hl, Nat.min_eq_left (by omega)]
  have hdl : (flat PairR.cells (l.drop i)).length = (n - i) * 2 := by rw [flat_len PairR.cells 2 PairR.cells_len, List.length_drop, hl]
  have hsplit : flat PairR.cells l = flat PairR.cells (l.take i) ++ flat PairR.cells (l.drop i) := by rw [← flat_app, List.take_append_drop]
  have hq2 : (n + 1) * 2 ≤ cap * 2 := Nat.mul_le_mul_right _ hroom
  obtain ⟨VS, hVS⟩ : ∃ VS, flat PairR.cells (l.drop i) = VS := ⟨_, rfl⟩
  have hVl : VS.length = (n - i) * 2 := by rw [← hVS]; exact hdl
  obtain ⟨W1, hW1⟩ : ∃ W1, w.drew.setCells g ((i + 1) * 2) VS = W1 := ⟨_, rfl⟩
  have hin : ∀ j, j < VS.length → (w.drew.cell? ⟨g, (i + 1) * 2 + j, none⟩).isSome = true := fun j hj => hsome _ (by omega)
  have hov : ∀ lb cb, (callFunc 44 #[.slice (some ⟨vb, 0, none⟩) 1 1, .slice (some ⟨g, (i + 1) * 2, none⟩) lb cb]).run Try.prog w = .ok (.value (.bool false)) w := fun lb cb => by
    have hsa : w.shape? vb = some (49, 2) := by simp [World.shape?, hb.blk]
    have hsb : w.shape? g = some (49, cap * 2) := by simp [World.shape?, hh, hcs]
    rw [run_callFunc_extern Try.func44 (by kernel_rfl) (by kernel_rfl) (by kernel_rfl) (e := Extern.SlicesOverlaps.overlaps #[46, 46] #[4]) (by kernel_rfl),
      Lib.run_overlaps_apart w 46 4 49 Try.underlying46 2 (fun w => by kernel_rfl) ⟨vb, 0, none⟩ ⟨g, (i + 1) * 2, none⟩ 1 1 lb cb hne 49 49 2 (cap * 2) hsa hsb (by omega) (by simp [World.frozen?, hb.blk]) (by simp [World.frozen?, hb.blk])]
    rfl
  have hcp1 : ∀ dc sc ty, (Builtin.copy_ #[46, 46] ty #[.slice (some ⟨g, (i + 1) * 2, none⟩) (n - i) dc, .slice (some ⟨g, i * 2, none⟩) (n + 1 - i) sc]).run Try.prog w.drew = .ok (goInt (n - i : Nat)) W1 := fun dc sc ty => by
    rw [← hW1]
    exact run_copy_rows w.drew 46 46 ty 49 2 g ((i + 1) * 2) (n - i) dc ⟨g, i * 2, none⟩ (n + 1 - i) sc VS Try.underlying46 Try.info49s (n - i) (by simp only [Nat.min_def]; split <;> omega) hVl
      (fun j u hj => by
        show w.cell? _ = some u
        rw [Addr.add_lit]
        refine hc _ u ?_
        rw [hsplit, List.getElem?_append_right (by rw [htl]; omega), htl, hVS, show i * 2 + j - i * 2 = j by omega]
        exact hj) hin (fun j _ => hfr _) (by rw [← hVS]; exact flat_one PairR.cells PairR.cells_one _)
  have hW1c : ∀ j, (w.cell? ⟨g, j, none⟩).isSome = true → (W1.cell? ⟨g, j, none⟩).isSome = true := fun j hj => by
    rw [← hW1]
    by_cases hin2 : (i + 1) * 2 ≤ j ∧ j < (i + 1) * 2 + VS.length
    · have := World.cell?_setCells_in g VS ((i + 1) * 2) w.drew hin (j - (i + 1) * 2) (by omega)
      rw [show (i + 1) * 2 + (j - (i + 1) * 2) = j by omega] at this
      rw [this]; rfl
    · rw [World.cell?_setCells_out g VS _ w.drew _ (fun _ _ => by show j < (i + 1) * 2 ∨ (i + 1) * 2 + VS.length ≤ j; omega)]
      exact hj
  have hcp2 : ∀ dc ty, (Builtin.copy_ #[46, 46] ty #[.slice (some ⟨g, i * 2, none⟩) (n + 1 - i) dc, .slice (some ⟨vb, 0, none⟩) 1 1]).run Try.prog W1 = .ok (goInt (1 : Nat)) (W1.setCells g (i * 2) p.cells) := fun dc ty =>
    run_copy_rows W1 46 46 ty 49 2 g (i * 2) (n + 1 - i) dc ⟨vb, 0, none⟩ 1 1 p.cells Try.underlying46 Try.info49s 1 (by simp only [Nat.min_def]; split <;> omega) rfl
      (fun j u hj => by
        rw [Addr.add_lit, ← hW1, World.cell?_setCells_out g VS _ w.drew _ (fun h _ => absurd h hne)]
        have := hb.news j u hj
        rw [Addr.add_lit] at this
        exact this) (fun j hj => hW1c _ (hsome _ (by have : p.cells.length = 2 := rfl; omega))) (fun j _ => by rw [← hW1, World.frozen?_setCells]; exact hfr _) (PairR.cells_one p)
  have hfin : Own2 (W1.setCells g (i * 2) p.cells) base (.slice (some ⟨g, 0, none⟩) (n + 1) cap) (l.take i ++ (p :: l.drop i)) ∧ Mod (fun k => (Value.slice (some ⟨g, 0, none⟩) n cap).ownBlock = some k) w (W1.setCells g (i * 2) p.cells) := by
    have hM : Mod (· = g) w (W1.setCells g (i * 2) p.cells) := by
      rw [← hW1]
      exact (((Mod.refl _ w).drew).trans (mod_setCells g VS _ w.drew)).trans (mod_setCells g _ _ _)
    refine ⟨?_, hM.mono (fun k hk => by rw [hk]; rfl)⟩
    have hll : (l.take i ++ (p :: l.drop i)).length = n + 1 := by rw [List.length_append, List.length_cons, List.length_take, List.length_drop, hl]; omega
    obtain ⟨c1, h1, h2⟩ := setCells_block g 49 (0, 0) VS ((i + 1) * 2) w.drew cur hh
    rw [hW1] at h1
    obtain ⟨c2, h3, h4⟩ := setCells_block g 49 (0, 0) p.cells (i * 2) W1 c1 h1
    have hin3 : ∀ j, j < p.cells.length → (W1.cell? ⟨g, i * 2 + j, none⟩).isSome = true := fun j hj => hW1c _ (hsome _ (by have : p.cells.length = 2 := rfl; omega))
    unfold Own2
    rw [hll]
    refine own_mk hB h3 hroom hm (by rw [h4, h2, hcs]) (by rw [flat_len PairR.cells 2 PairR.cells_len, hll]) (ins_cells hl (by omega) (fun j u hj hu => ?_) (fun j u hj => ?_) (fun j u hj => ?_))
    · rw [World.cell?_setCells_out g _ _ W1 _ (fun _ _ => .inl (by show j < i * 2; exact hj)), ← hW1, World.cell?_setCells_out g VS _ w.drew _ (fun _ _ => .inl (by show j < (i + 1) * 2; omega))]
      exact hc j u hu
    · obtain ⟨hj1, rfl⟩ := List.getElem?_eq_some_iff.1 hj
      exact World.cell?_setCells_in g p.cells (i * 2) W1 hin3 j hj1
    · rw [hVS] at hj
      obtain ⟨hj1, rfl⟩ := List.getElem?_eq_some_iff.1 hj
      rw [World.cell?_setCells_out g _ _ W1 _ (fun _ _ => .inr (by show i * 2 + p.cells.length ≤ (i + 1) * 2 + j; have : p.cells.length = 2 := rfl; omega)), ← hW1]
      exact World.cell?_setCells_in g VS _ w.drew hin j hj1
  have HFIN := Lib.hid hfin
  have HCP1 := Lib.hid hcp1
  have HCP2 := Lib.hid hcp2
  have HN := Lib.hid hl
  have hcap63 : cap ≤ 9223372036854775807 := by unfold maxLen at hm; omega
  have hw1 : IntKind.i64.wrap ((i : Int) + 1) = (i : Int) + 1 := IntWalk.i64_in _ (by omega)
  have b0 : ((i : Int) == n) = false := beq_eq_false_iff_ne.2 (by omega)
  have b1 : (0 : Int) ≤ (i : Int) + 1 := by omega
  have b2 : ((i : Int) + 1).toNat = i + 1 := by omega
  have b3 : decide ((cap : Int) < (n : Int) + 1) = false := by simp; omega
  have b4 : (n : Int) + 1 ≤ cap := by omega
  have b5 : (i : Int) + 1 ≤ (n : Int) + 1 := by omega
  have b6 : ¬ cap = i + 1 := by omega
  have b7 : ¬ cap = i := by omega
  have b8 : (i : Int) ≤ n := by omega
  have b9 : (i : Int) ≤ (n : Int) + 1 := by omega
  have b10 : ((n : Int) + 1).toNat = n + 1 := by omega
  clear hfin hcp1 hcp2 hW1c hin hVS hVl hcl hdl htl hsplit hc hsome hfr hh hcs h hl hgl hq2 hW1 hb hm hle hB
  go_enter Try.func38, Try.ntmps38
  go_wp2_with (simp only [hov])
  go_outline
  go_region_law (refine step_copy_run rfl _ (by rfl) _ _ 46 46 rfl (.slice (some ⟨g, (i + 1) * 2, none⟩) (n - i) (cap - (i + 1))) (.slice (some ⟨g, i * 2, none⟩) (n + 1 - i) (cap - i)) (by simp [Act.eval, Act.put]) (by simp [Act.eval, Act.put]) (HCP1.out _ _) ?_)
  go_wp2_with (with_reducible refine wpList_copy_run _ rfl (.tmp 80) (.tmp 81) 46 46 rfl (.slice (some ⟨g, i * 2, none⟩) (n + 1 - i) (cap - i)) (.slice (some ⟨vb, 0, none⟩) 1 1) rfl rfl (HCP2.out _) ?_)
  go_ret
  exact ⟨some ⟨g, 0, none⟩, cap, by rw [HN.out]; rfl, by rw [HN.out]; exact HFIN.out.1, HFIN.out.2⟩
end Go.Proofs.Ytcgkpgjjifggcaa
