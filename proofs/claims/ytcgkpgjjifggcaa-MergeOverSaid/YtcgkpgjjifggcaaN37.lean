/-
  Merge: slices.Insert of one pair into a full row; the three roads joined.
-/
import Derived.Test.YtcgkpgjjifggcaaN36
import Derived.Lib.AppendZerosOnto
import Derived.Laws.NewBlocks
namespace Go.Proofs.Ytcgkpgjjifggcaa
set_option linter.unusedVariables false
set_option linter.unusedSimpArgs false
open Go.RowKit Sl

set_option maxHeartbeats 6400000 in
theorem insert_grow (g n i base vb : Nat) (l : List PairR) (p : PairR) (w : World) (h : Own2 w base (.slice (some ⟨g, 0, none⟩) n n) l) (hl : l.length = n) (hi : i < n) (hbig : n ≤ 1000000) (hb : PairBox w vb p) (hbase : base ≤ w.heap.size) :
    Calls Try.prog 38 #[.slice (some ⟨g, 0, none⟩) n n, .int .i64 i, .slice (some ⟨vb, 0, none⟩) 1 1] w (InsPost l i p base (.slice (some ⟨g, 0, none⟩) n n) w) := by
  obtain ⟨i0, hi0, hz0, hz1, hz2⟩ := info_parts Try.infoPair
  obtain ⟨g', cap', cur, e1, hB, hgl, hh, hle, hm, hcs, hc, hsome, hfr⟩ := own_parts h (by rw [hl]; omega)
  simp only [Value.slice.injEq, Option.some.injEq, Addr.mk.injEq, and_true] at e1
  obtain ⟨rfl, -, rfl⟩ := e1
  have hvl := hb.lt
  have hcl : (flat PairR.cells l).length = n * 2 := by rw [flat_len PairR.cells 2 PairR.cells_len, hl]
  have htl : (flat PairR.cells (l.take i)).length = i * 2 := by rw [flat_len PairR.cells 2 PairR.cells_len, List.length_take, hl, Nat.min_eq_left (by omega)]
  have hdl : (flat PairR.cells (l.drop i)).length = (n - i) * 2 := by rw [flat_len PairR.cells 2 PairR.cells_len, List.length_drop, hl]
  have hsplit : flat PairR.cells l = flat PairR.cells (l.take i) ++ flat PairR.cells (l.drop i) := by rw [← flat_app, List.take_append_drop]
  obtain ⟨VS, hVS⟩ : ∃ VS, flat PairR.cells (l.drop i) = VS := ⟨_, rfl⟩
  have hVl : VS.length = (n - i) * 2 := by rw [← hVS]; exact hdl
  obtain ⟨H, hH⟩ : ∃ H, w.heap.size = H := ⟨_, rfl⟩
  obtain ⟨G, hG⟩ : ∃ G, grownCap w (n + 1) n 49 = G := ⟨_, rfl⟩
  have hGn : n + 1 ≤ G := by rw [← hG]; exact grownCap_ge w _ _ _
  have hGm : G ≤ maxLen := by rw [← hG]; exact grownCap_le_maxLen w (n + 1) n 49 (by unfold maxLen; omega)
  obtain ⟨ROW, hROW⟩ : ∃ ROW : Array Value, (flat PairR.cells (l.take i)).toArray ++ Builtin.zeroCells (Value.agg #[.string ⟨#[]⟩, .string ⟨#[]⟩]).cells (n + 1 - i) ++ Builtin.zeroCells (Value.agg #[.string ⟨#[]⟩, .string ⟨#[]⟩]).cells (G - (n + 1)) = ROW := ⟨_, rfl⟩
  have hz2c : (Value.agg #[.string ⟨#[]⟩, .string ⟨#[]⟩]).cells.size = 2 := by rfl
  have hRs : ROW.size = G * 2 := by
    rw [← hROW]
    simp only [Builtin.zeroCells, Array.size_append, Array.size_map, Array.size_range, hz2c, List.size_toArray, htl]
    omega
  have hR1 : ∀ j u, j < i * 2 → (flat PairR.cells (l.take i))[j]? = some u → ROW[j]? = some u := fun j u hj hu => by
    rw [← hROW, Array.append_assoc, Array.getElem?_append_left (by rw [List.size_toArray, htl]; exact hj)]
    simpa using hu
  obtain ⟨W1, hW1⟩ : ∃ W1, w.drew.alloc (.cells ROW 49) = W1 := ⟨_, rfl⟩
  have hold : (Builtin.firstCells i0.size i (.slice (some ⟨g, 0, none⟩) i n)).run Try.prog w.drew = .ok (flat PairR.cells (l.take i)).toArray w.drew := by
    rw [hz1]
    exact run_firstCells_some w.drew 2 i ⟨g, 0, none⟩ i n _ htl (fun j v hj => by
      rw [Addr.add_lit]
      show w.cell? _ = some v
      refine hc _ v ?_
      rw [Nat.zero_add, hsplit, List.getElem?_append_left (List.getElem?_eq_some_iff.1 hj).1]
      exact hj)
  have hrz : ∀ ty, (Builtin.append_ #[46, 3] ty #[.slice (some ⟨g, 0, none⟩) i n, .int .i64 ((n : Int) + 1 - i)]).run Try.prog w = .ok (.slice (some ⟨H, 0, none⟩) (n + 1) G) W1 := fun ty => by
    have hx := Lib.run_append_grow_zeros w 46 3 ty 49 i0 _ .i64 .i64 Try.underlying46 (by kernel_rfl) hi0 hz0 (some ⟨g, 0, none⟩) i n _ hold (n + 1 - i) (by omega) (by omega) (by omega) (by omega) (by rw [hz2]; omega) (by rw [hz2, show i + (n + 1 - i) = n + 1 by omega]; exact growslice_fits (by omega) (by omega))
    rw [show i + (n + 1 - i) = n + 1 by omega, hG, hH, hROW, hW1] at hx
    rw [show (n : Int) + 1 - i = ((n + 1 - i : Nat) : Int) by omega]
    exact hx
  have hsz1 : w.drew.heap.size = H := hH
  have hN : ∀ j, j < G * 2 → (W1.cell? ⟨H, j, none⟩).isSome = true := fun j hj => by
    rw [← hW1, World.cell?_alloc_at (w := w.drew) ROW _ H j hsz1.symm, Array.getElem?_eq_getElem (by omega)]; rfl
  have hNf : ∀ j, W1.frozen? ⟨H, j, none⟩ = false := fun j => by rw [← hW1]; exact World.frozen?_alloc_at (w := w.drew) ROW _ H j hsz1.symm
  have hOb : ∀ k j v, k < H → w.cell? ⟨k, j, none⟩ = some v → W1.cell? ⟨k, j, none⟩ = some v := fun k j v hk h => by rw [← hW1, World.cell?_alloc_past (w := w.drew) _ k j (by rw [hsz1]; exact hk)]; exact h
  have hvH : vb < H := hH ▸ hvl
  have hgH : g < H := hH ▸ hgl
  have hvne : vb ≠ H := by omega
  have hgne : g ≠ H := by omega
  have hp2 : p.cells.length = 2 := rfl
  have hG2 : (n + 1) * 2 ≤ G * 2 := Nat.mul_le_mul_right _ hGn
  obtain ⟨W2, hW2⟩ : ∃ W2, W1.setCells H (i * 2) p.cells = W2 := ⟨_, rfl⟩
  have hcp1 : ∀ dc ty, (Builtin.copy_ #[46, 46] ty #[.slice (some ⟨H, i * 2, none⟩) (n + 1 - i) dc, .slice (some ⟨vb, 0, none⟩) 1 1]).run Try.prog W1 = .ok (goInt (1 : Nat)) W2 := fun dc ty => by
    rw [← hW2]
    exact run_copy_rows W1 46 46 ty 49 2 H (i * 2) (n + 1 - i) dc ⟨vb, 0, none⟩ 1 1 p.cells Try.underlying46 Try.info49s 1 (by simp only [Nat.min_def]; split <;> omega) rfl
      (fun j u hj => by
        rw [Addr.add_lit]
        refine hOb _ _ _ hvH ?_
        have := hb.news j u hj
        rw [Addr.add_lit] at this
        exact this) (fun j hj => hN _ (by omega)) (fun j _ => hNf _) (PairR.cells_one p)
  have hin2 : ∀ j, j < p.cells.length → (W1.cell? ⟨H, i * 2 + j, none⟩).isSome = true := fun j hj => hN _ (by omega)
  have hW2c : ∀ j, j < G * 2 → (W2.cell? ⟨H, j, none⟩).isSome = true := fun j hj => by
    rw [← hW2]
    by_cases hin3 : i * 2 ≤ j ∧ j < i * 2 + p.cells.length
    · have := World.cell?_setCells_in H p.cells (i * 2) W1 hin2 (j - i * 2) (by omega)
      rw [show i * 2 + (j - i * 2) = j by omega] at this
      rw [this]; rfl
    · rw [World.cell?_setCells_out H p.cells _ W1 _ (fun _ _ => by show j < i * 2 ∨ i * 2 + p.cells.length ≤ j; omega)]
      exact hN j hj
  have hcp2 : ∀ dc sc ty, (Builtin.copy_ #[46, 46] ty #[.slice (some ⟨H, (i + 1) * 2, none⟩) (n - i) dc, .slice (some ⟨g, i * 2, none⟩) (n - i) sc]).run Try.prog W2.drew = .ok (goInt (n - i : Nat)) (W2.drew.setCells H ((i + 1) * 2) VS) := fun dc sc ty =>
    run_copy_rows W2.drew 46 46 ty 49 2 H ((i + 1) * 2) (n - i) dc ⟨g, i * 2, none⟩ (n - i) sc VS Try.underlying46 Try.info49s (n - i) (by simp only [Nat.min_def]; split <;> omega) hVl
      (fun j u hj => by
        show W2.cell? _ = some u
        rw [Addr.add_lit, ← hW2, World.cell?_setCells_out H _ _ W1 _ (fun h _ => absurd h hgne)]
        refine hOb _ _ _ hgH (hc _ u ?_)
        rw [hsplit, List.getElem?_append_right (by rw [htl]; omega), htl, hVS, show i * 2 + j - i * 2 = j by omega]
        exact hj) (fun j hj => hW2c _ (by omega)) (fun j _ => by show W2.frozen? _ = false; rw [← hW2, World.frozen?_setCells]; exact hNf _) (by rw [← hVS]; exact flat_one PairR.cells PairR.cells_one _)
  have hfin : Own2 (W2.drew.setCells H ((i + 1) * 2) VS) base (.slice (some ⟨H, 0, none⟩) (n + 1) G) (l.take i ++ (p :: l.drop i)) ∧ Mod (fun k => (Value.slice (some ⟨g, 0, none⟩) n n).ownBlock = some k) w (W2.drew.setCells H ((i + 1) * 2) VS) := by
    have hM1 : Mod (fun _ => False) w W1 := by rw [← hW1]; exact ((Mod.refl _ w).drew).new _
    have hM2 : Mod (· = H) W1 (W2.drew.setCells H ((i + 1) * 2) VS) := by
      rw [← hW2]
      exact ((mod_setCells H _ _ W1).drew).trans (mod_setCells H VS _ _)
    refine ⟨?_, ⟨hM2.os.trans hM1.os, hM2.tape.trans hM1.tape, hM2.output.trans hM1.output, Nat.le_trans hM1.size hM2.size, fun k hk hs => ?_⟩⟩
    · have hll : (l.take i ++ (p :: l.drop i)).length = n + 1 := by rw [List.length_append, List.length_cons, List.length_take, List.length_drop, hl]; omega
      have h0 : W1.heap[H]? = some (.cells ROW 49 (0, 0)) := by rw [← hW1]; show (w.heap.push _)[H]? = _; rw [← hH]; simp
      obtain ⟨c1, h1, h2⟩ := setCells_block H 49 (0, 0) p.cells (i * 2) W1 ROW h0
      rw [hW2] at h1
      obtain ⟨c2, h3, h4⟩ := setCells_block H 49 (0, 0) VS ((i + 1) * 2) W2.drew c1 h1
      have hin3 : ∀ j, j < VS.length → (W2.drew.cell? ⟨H, (i + 1) * 2 + j, none⟩).isSome = true := fun j hj => hW2c _ (by omega)
      unfold Own2
      rw [hll]
      refine own_mk (hH ▸ hbase) h3 hGn hGm (by rw [h4, h2, hRs]) (by rw [flat_len PairR.cells 2 PairR.cells_len, hll]) (ins_cells hl (by omega) (fun j u hj hu => ?_) (fun j u hj => ?_) (fun j u hj => ?_))
      · rw [World.cell?_setCells_out H _ _ W2.drew _ (fun _ _ => .inl (by show j < (i + 1) * 2; omega))]
        show W2.cell? _ = _
        rw [← hW2, World.cell?_setCells_out H p.cells _ W1 _ (fun _ _ => .inl (by show j < i * 2; exact hj)), ← hW1, World.cell?_alloc_at (w := w.drew) ROW _ H j hsz1.symm]
        refine hR1 j u hj ?_
        rw [hsplit, List.getElem?_append_left (by rw [htl]; exact hj)] at hu
        exact hu
      · obtain ⟨hj1, rfl⟩ := List.getElem?_eq_some_iff.1 hj
        rw [World.cell?_setCells_out H _ _ W2.drew _ (fun _ _ => .inl (by show i * 2 + j < (i + 1) * 2; omega))]
        show W2.cell? _ = _
        rw [← hW2]
        exact World.cell?_setCells_in H p.cells (i * 2) W1 hin2 j hj1
      · rw [hVS] at hj
        obtain ⟨hj1, rfl⟩ := List.getElem?_eq_some_iff.1 hj
        exact World.cell?_setCells_in H VS _ W2.drew hin3 j hj1
    · rw [hM2.block k (Nat.lt_of_lt_of_le hk hM1.size) (by omega)]
      exact hM1.block k hk (fun h => h)
  have HFIN := Lib.hid hfin
  have HRZ := Lib.hid hrz
  have HCP1 := Lib.hid hcp1
  have HCP2 := Lib.hid hcp2
  have HN := Lib.hid hl
  have hG63 : G ≤ 9223372036854775807 := by unfold maxLen at hGm; omega
  have hw1 : IntKind.i64.wrap ((i : Int) + 1) = (i : Int) + 1 := IntWalk.i64_in _ (by omega)
  have hw2 : IntKind.i64.wrap ((n : Int) + 1) = (n : Int) + 1 := IntWalk.i64_in _ (by omega)
  have hw3 : IntKind.i64.wrap ((n : Int) + 1 - i) = (n : Int) + 1 - i := IntWalk.i64_in _ (by omega)
  have b0 : ((i : Int) == n) = false := beq_eq_false_iff_ne.2 (by omega)
  have b1 : (0 : Int) ≤ (i : Int) + 1 := by omega
  have b2 : ((i : Int) + 1).toNat = i + 1 := by omega
  have b3 : decide ((n : Int) < (n : Int) + 1) = true := by simp; omega
  have b5 : (i : Int) + 1 ≤ (n : Int) + 1 := by omega
  have b6 : ¬ G = i + 1 := by omega
  have b7 : ¬ G = i := by omega
  have b8 : (i : Int) ≤ n := by omega
  have b9 : (i : Int) ≤ (n : Int) + 1 := by omega
  have b11 : ¬ n = i := by omega
  clear hfin hrz hcp1 hcp2 hW2c hin2 hVS hVl hcl hdl htl hsplit hc hsome hfr hh hcs h hl hgl hW2 hb hm hle hB hN hNf hOb hRs hR1 hold hW1 hROW hsz1 hG hGm hbase hvH hgH hvne hgne hp2 hG2 hH hi0 hz0 hz1 hz2 hz2c hvl
  go_enter Try.func38, Try.ntmps38
  go_wp2_with (first
    | (with_reducible refine Lib.wpList_append_run _ rfl (.tmp 34) (.tmp 39) 46 3 rfl (.slice (some ⟨g, 0, none⟩) i n) (.int .i64 ((n : Int) + 1 - i)) rfl rfl _ _ (HRZ.out _) ?_)
    | (with_reducible refine wpList_copy_run _ rfl (.tmp 43) (.tmp 44) 46 46 rfl (.slice (some ⟨H, i * 2, none⟩) (n + 1 - i) (G - i)) (.slice (some ⟨vb, 0, none⟩) 1 1) rfl rfl (HCP1.out _) ?_))
  go_outline
  go_region_law (refine step_copy_run rfl _ (by rfl) _ _ 46 46 rfl (.slice (some ⟨H, (i + 1) * 2, none⟩) (n - i) (G - (i + 1))) (.slice (some ⟨g, i * 2, none⟩) (n - i) (n - i)) (by simp [Act.eval, Act.put]) (by simp [Act.eval, Act.put]) (HCP2.out _ _) ?_)
  go_wp2
  go_ret
  exact ⟨some ⟨H, 0, none⟩, G, by rw [HN.out]; rfl, by rw [HN.out]; exact HFIN.out.1, HFIN.out.2⟩

theorem insert_ok (v : Value) (n i base vb : Nat) (l : List PairR) (p : PairR) (w : World) (h : Own2 w base v l) (hl : l.length = n) (hi : i ≤ n) (hbig : n ≤ 1000000) (hb : PairBox w vb p) (hbase : base ≤ w.heap.size) (hne : v.ownBlock ≠ some vb) :
    Calls Try.prog 38 #[v, .int .i64 i, .slice (some ⟨vb, 0, none⟩) 1 1] w (InsPost l i p base v w) := by
  by_cases hin : i = n
  · subst hin
    exact insert_end v i base vb l p w h hl hbig hb hbase
  · obtain ⟨g, cap, cur, rfl, hB, hgl, hh, hle, hm, hcs, hc, hsome, hfr⟩ := own_parts h (by rw [hl]; omega)
    rw [hl] at h hle ⊢
    by_cases hcn : cap = n
    · subst hcn
      exact insert_grow g cap i base vb l p w h hl (by omega) hbig hb hbase
    · exact insert_room g cap n i base vb l p w h hl (by omega) (by omega) hbig hb (fun e => hne (by rw [e]; rfl))
end Go.Proofs.Ytcgkpgjjifggcaa
