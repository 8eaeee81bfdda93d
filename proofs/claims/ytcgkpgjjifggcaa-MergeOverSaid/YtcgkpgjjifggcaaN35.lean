/-
  Merge: contracts of slices.Clone (a row of the call's own) and slices.Delete at pairs.
-/
import Derived.Test.YtcgkpgjjifggcaaN34
import Derived.Deep.RegionLaw
namespace Go.Proofs.Ytcgkpgjjifggcaa
set_option linter.unusedVariables false
set_option linter.unusedSimpArgs false
open Go.RowKit Sl

set_option maxHeartbeats 1600000 in
theorem clone2_ok (v : Value) (l : List PairR) (S : Nat → Prop) (w : World) (h : SlV PairR.cells w S v l) (hbig : l.length ≤ 1000000) :
    Calls Try.prog 33 #[v] w fun e w' => ∃ v', e = .returned v' ∧ Own2 w' w.heap.size v' l ∧ Below w.heap.size w w' := by
  obtain ⟨i0, hi, hz0, hz1, hz2⟩ := info_parts Try.infoPair
  obtain ⟨ao, cap, hv⟩ := h.shape
  obtain ⟨n, hn⟩ : ∃ n, l.length = n := ⟨_, rfl⟩
  rw [hn] at hv hbig
  subst hv
  obtain ⟨-, h2, h3⟩ := SlV.len h
  unfold maxLen at h3
  have HV := Lib.hid h
  have HN := Lib.hid hn
  clear h hn
  cases ao with
  | none =>
    obtain rfl := (SlV.row HV.out).1 rfl
    have hnil := fun (w : World) => Lib.run_eql_slice_nil (P := Try.prog) w 46 49 none 0 cap 0 0 Try.underlying46
    go_enter Try.func33, Try.ntmps33
    go_wp2
    go_ret
    have : l = [] := List.length_eq_zero_iff.1 HN.out
    subst this
    exact ⟨_, rfl, World.ownsRow_nil _ _ _ _, Below.refl _ _⟩
  | some ad =>
    have hnil := fun (w : World) => Lib.run_eql_slice_nil (P := Try.prog) w 46 49 (some ad) n cap 0 0 Try.underlying46
    have HO : Hid ((w.alloc (.cells #[] 49)).ownsRow w.heap.size 49 2 (.slice (some ⟨w.heap.size, 0, none⟩) 0 0) 0 []) := Lib.hid (own_mk (cur := #[]) (Nat.le_refl _) (by show (w.heap.push _)[w.heap.size]? = _; simp) (Nat.le_refl _) (Nat.zero_le _) rfl rfl (fun j u h => by simp at h))
    go_enter Try.func33, Try.ntmps33
    go_wp2_with (at_builtin; refine wpList_append_own _ rfl (.tmp 5) (.tmp 6) 46 rfl w.heap.size 49 i0 (.agg #[.string ⟨#[]⟩, .string ⟨#[]⟩]) 2 32 Try.underlying46 hi hz0 hz1 hz2 rfl (by decide) (.slice (some ⟨w.heap.size, 0, none⟩) 0 0) 0 [] rfl HO.out ad n cap (flat PairR.cells l) rfl ?p1 ?p3 ?p4 ?p5 ?p6 ?p7 ?_)
    case p1 => rw [flat_len PairR.cells 2 PairR.cells_len, HN.out]
    case p3 =>
      intro j u hj
      exact (SlV.row (HV.out.below ((Below.refl _ _).alloc (Nat.le_refl _) _))).2 ad rfl j u hj
    case p4 => exact flat_one PairR.cells PairR.cells_one l
    case p5 => unfold maxLen; omega
    case p6 => omega
    case p7 => simp
    intro v' w1 hh hg hb
    go_wp2
    go_ret
    refine ⟨v', rfl, ?_, ((Below.refl _ _).alloc (Nat.le_refl _) _).grown hg (by simp) (fun k hk => by simp [Value.ownBlock] at hk; omega)⟩
    unfold Own2
    rw [HN.out]
    exact hh

theorem step_append_run {P : Program} {ops : Array Oper} {o : Oper} {a : Act} {w : World} {K : Act → World → Prop} {Q : Exit → Act → World → Prop} {E : Prop}
    (hg : o.guard = none) (d : Option Tmp) (hd' : o.dst = d) (s x : Operand) (dT sT : TypeId) (hop : o.op = Op.call { callee := Callee.builtin Builtin.append, args := #[s, x], argTypes := #[dT, sT] })
    (v u : Value) (hd : a.eval s = v) (hx : a.eval x = u) {v' : Value} {w' : World} (hr : ∀ ty, (Builtin.append_ #[dT, sT] ty #[v, u]).run P w = .ok v' w') (hK : K (a.put d v') w') :
    if Region.wanted o (yielded ops a.tmps) = true then Oper.wp P o a w K Q else E := by
  subst hd'
  have hw : Region.wanted o (yielded ops a.tmps) = true := by simp [Region.wanted, hg]
  rw [if_pos hw]
  unfold Oper.wp
  simp [execOp, hop, resolve, invoke, builtin, hd, hx, hr, Result.andThen]
  exact hK

set_option maxHeartbeats 3200000 in
theorem delete_ok (g cap q i base : Nat) (l : List PairR) (w : World) (h : Own2 w base (.slice (some ⟨g, 0, none⟩) (q + 1) cap) l) (hl : l.length = q + 1) (hi : i ≤ q) (hbig : q ≤ 1000000) :
    Calls Try.prog 37 #[.slice (some ⟨g, 0, none⟩) (q + 1) cap, .int .i64 i, .int .i64 ((i : Int) + 1)] w fun e w' => e = .returned (.slice (some ⟨g, 0, none⟩) q cap) ∧ Own2 w' base (.slice (some ⟨g, 0, none⟩) q cap) (l.take i ++ l.drop (i + 1)) ∧ Mod (· = g) w w' := by
  obtain ⟨i0, hi0, hz0, hz1, hz2⟩ := info_parts Try.infoPair
  obtain ⟨g', cap', cur, e1, hB, hgl, hh, hle, hm, hcs, hc, hsome, hfr⟩ := own_parts h (by rw [hl]; omega)
  simp only [Value.slice.injEq, Option.some.injEq, Addr.mk.injEq, and_true] at e1
  obtain ⟨rfl, -, rfl⟩ := e1
  rw [hl] at hle
  have hcl : (flat PairR.cells l).length = (q + 1) * 2 := by rw [flat_len PairR.cells 2 PairR.cells_len, hl]
  have hdl : (flat PairR.cells (l.drop (i + 1))).length = (q - i) * 2 := by rw [flat_len PairR.cells 2 PairR.cells_len, List.length_drop, hl]; congr 1; omega
  have htl : (flat PairR.cells (l.take i)).length = i * 2 := by rw [flat_len PairR.cells 2 PairR.cells_len, List.length_take, hl, Nat.min_eq_left (by omega)]
  have htl1 : (flat PairR.cells (l.take (i + 1))).length = (i + 1) * 2 := by rw [flat_len PairR.cells 2 PairR.cells_len, List.length_take, hl, Nat.min_eq_left (by omega)]
  have hsplit : flat PairR.cells l = flat PairR.cells (l.take i) ++ flat PairR.cells (l.drop i) := by rw [← flat_app, List.take_append_drop]
  have hsplit1 : flat PairR.cells l = flat PairR.cells (l.take (i + 1)) ++ flat PairR.cells (l.drop (i + 1)) := by rw [← flat_app, List.take_append_drop]
  obtain ⟨VS, hVS⟩ : ∃ VS, flat PairR.cells (l.drop (i + 1)) = VS := ⟨_, rfl⟩
  obtain ⟨W1, hW1⟩ : ∃ W1, w.drew.setCells g (i * 2) VS = W1 := ⟨_, rfl⟩
  have hVl : VS.length = (q - i) * 2 := by rw [← hVS]; exact hdl
  have hin : ∀ j, j < VS.length → (w.drew.cell? ⟨g, i * 2 + j, none⟩).isSome = true := fun j hj => by
    show (w.cell? ⟨g, i * 2 + j, none⟩).isSome = true
    exact hsome _ (by have : (q + 1) * 2 ≤ cap * 2 := Nat.mul_le_mul_right _ hle; omega)
  have hap : ∀ ao c, (ao = (⟨g, (i + 1) * 2, none⟩ : Addr) ∨ i = q) → ∀ ty, (Builtin.append_ #[46, 46] ty #[.slice (some ⟨g, 0, none⟩) i cap, .slice (some ao) (q - i) c]).run Try.prog w.drew = .ok (.slice (some ⟨g, 0, none⟩) q cap) W1 := fun ao c hao ty => by
    have hr := run_append_room_cells (P := Try.prog) w.drew 46 ty 49 i0 Try.underlying46 hi0 g 0 i cap ao (q - i) c VS (by rw [hz1]; exact hVl) (fun j u hj => by
      have hjl := (List.getElem?_eq_some_iff.1 hj).1
      rcases hao with rfl | hiq
      · show w.cell? _ = some u
        rw [Addr.add_lit]
        refine hc _ u ?_
        rw [hsplit1, List.getElem?_append_right (by rw [htl1]; omega), htl1, hVS, show (i + 1) * 2 + j - (i + 1) * 2 = j by omega]
        exact hj
      · rw [hVl, hiq] at hjl; omega) (by rw [← hVS]; exact flat_one PairR.cells PairR.cells_one _) (by omega)
      (fun j hj => by rw [hz1, Nat.zero_add]; exact hin j hj) (fun j hj => hfr _)
    rw [hz1, Nat.zero_add, hW1, show i + (q - i) = q by omega] at hr
    exact hr
  have hW1c : ∀ j, (w.cell? ⟨g, j, none⟩).isSome = true → (W1.cell? ⟨g, j, none⟩).isSome = true := fun j hj => by
    rw [← hW1]
    by_cases hin2 : i * 2 ≤ j ∧ j < i * 2 + VS.length
    · have := World.cell?_setCells_in g VS (i * 2) w.drew hin (j - i * 2) (by omega)
      rw [show i * 2 + (j - i * 2) = j by omega] at this
      rw [this]; rfl
    · rw [World.cell?_setCells_out g VS _ w.drew _ (fun _ _ => by show j < i * 2 ∨ i * 2 + VS.length ≤ j; omega)]
      exact hj
  have hW1f : ∀ j, W1.frozen? ⟨g, j, none⟩ = false := fun j => by rw [← hW1, World.frozen?_setCells]; exact hfr j
  have hq2 : (q + 1) * 2 ≤ cap * 2 := Nat.mul_le_mul_right _ hle
  have hcr : ∀ ty c, (Builtin.clear_ #[46] ty #[.slice (some ⟨g, q * 2, none⟩) 1 c]).run Try.prog W1 = .ok (.tuple #[]) (W1.setCells g (q * 2) [.string ⟨#[]⟩, .string ⟨#[]⟩]) := fun ty c =>
    run_clear_pair W1 ty g (q * 2) c (hW1c _ (hsome _ (by omega))) (hW1c _ (hsome _ (by omega))) hW1f
  have hfin : Own2 (W1.setCells g (q * 2) [.string ⟨#[]⟩, .string ⟨#[]⟩]) base (.slice (some ⟨g, 0, none⟩) q cap) (l.take i ++ l.drop (i + 1)) ∧ Mod (· = g) w (W1.setCells g (q * 2) [.string ⟨#[]⟩, .string ⟨#[]⟩]) := by
    have hM : Mod (· = g) w (W1.setCells g (q * 2) [.string ⟨#[]⟩, .string ⟨#[]⟩]) := by
      rw [← hW1]
      exact (((Mod.refl _ w).drew).trans (mod_setCells g VS (i * 2) w.drew)).trans (mod_setCells g _ (q * 2) _)
    refine ⟨?_, hM⟩
    have hll : (l.take i ++ l.drop (i + 1)).length = q := by rw [List.length_append, List.length_take, List.length_drop, hl]; omega
    obtain ⟨c1, h1, h2⟩ := setCells_block g 49 (0, 0) VS (i * 2) w.drew cur hh
    rw [hW1] at h1
    obtain ⟨c2, h3, h4⟩ := setCells_block g 49 (0, 0) [.string ⟨#[]⟩, .string ⟨#[]⟩] (q * 2) W1 c1 h1
    unfold Own2
    rw [hll]
    refine own_mk hB h3 (by omega) hm (by rw [h4, h2, hcs]) (by rw [flat_app, List.length_append, htl, hdl]; omega) (fun j u hj => ?_)
    have hjl : j < q * 2 := by
      have := (List.getElem?_eq_some_iff.1 hj).1
      rw [flat_app, List.length_append, htl, hdl] at this; omega
    rw [World.cell?_setCells_out g _ _ W1 _ (fun _ _ => .inl (by show j < q * 2; omega)), ← hW1]
    rw [flat_app, hVS] at hj
    by_cases hji : j < i * 2
    · rw [World.cell?_setCells_out g VS _ w.drew _ (fun _ _ => .inl (by show j < i * 2; omega))]
      rw [List.getElem?_append_left (by rw [htl]; exact hji)] at hj
      exact hc j u (by rw [hsplit, List.getElem?_append_left (by rw [htl]; exact hji)]; exact hj)
    · rw [List.getElem?_append_right (by rw [htl]; omega), htl] at hj
      obtain ⟨hj1, rfl⟩ := List.getElem?_eq_some_iff.1 hj
      have := World.cell?_setCells_in g VS (i * 2) w.drew hin (j - i * 2) hj1
      rw [show i * 2 + (j - i * 2) = j by omega] at this
      exact this
  have HFIN := Lib.hid hfin
  have HAP := Lib.hid hap
  have HCR := Lib.hid hcr
  have hcap63 : cap ≤ 9223372036854775807 := by unfold maxLen at hm; omega
  have b1 : (i : Int) ≤ (i : Int) + 1 := by omega
  have b2 : (i : Int) + 1 ≤ (q : Int) + 1 := by omega
  have b3 : ((i : Int) == (i : Int) + 1) = false := beq_eq_false_iff_ne.2 (by omega)
  have b4 : ((i : Int) + 1).toNat = i + 1 := by omega
  have b5 : (0 : Int) ≤ (i : Int) + 1 := by omega
  have b6 : (q : Int) + 1 ≤ cap := by omega
  have b7 : ¬ cap = q := by omega
  have b8 : (i : Int) ≤ cap := by omega
  have b9 : (i : Int) ≤ q := by omega
  clear hfin hap hcr hW1c hW1f hin hVS hVl hcl hdl htl htl1 hsplit hsplit1 hc hsome hfr hh hcs h hl hgl hq2 hW1
  go_enter Try.func37, Try.ntmps37
  rcases Nat.lt_or_ge (i + 1) cap with hlc | hlc
  · have hcn : ¬ cap = i + 1 := by omega
    go_wp2_with fail
    go_region_law
      (refine step_append_run rfl (some 26) (by rfl) (.tmp 22) (.tmp 25) 46 46 (by rfl) (.slice (some ⟨g, 0, none⟩) i cap) (.slice (some ⟨g, (i + 1) * 2, none⟩) (q - i) (cap - (i + 1))) (by rfl) (by rfl) (HAP.out _ _ (.inl rfl)) ?_)
    have hcr := HCR.out
    go_wp2
    go_ret
    exact ⟨rfl, HFIN.out⟩
  · obtain rfl : i = q := by omega
    obtain rfl : cap = i + 1 := by omega
    go_wp2_with fail
    go_region_law
      (refine step_append_run rfl (some 26) (by rfl) (.tmp 22) (.tmp 25) 46 46 (by rfl) (.slice (some ⟨g, 0, none⟩) i (i + 1)) (.slice (some ⟨g, 0, none⟩) 0 0) (by rfl) (by rfl) (by have := HAP.out ⟨g, 0, none⟩ 0 (.inr trivial); rw [Nat.sub_self] at this; exact this) ?_)
    have hcr := HCR.out
    go_wp2
    go_ret
    exact ⟨rfl, HFIN.out⟩
end Go.Proofs.Ytcgkpgjjifggcaa
