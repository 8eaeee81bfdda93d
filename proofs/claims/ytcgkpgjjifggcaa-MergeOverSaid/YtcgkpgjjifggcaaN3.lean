/-
  Merge: runs in memory; contracts of Len, Less, Swap, Pop of runs.
-/
import Derived.Test.YtcgkpgjjifggcaaN2
namespace Go.Proofs.Ytcgkpgjjifggcaa
set_option linter.unusedVariables false
set_option linter.unusedSimpArgs false
open Go.RowKit Sl

/-- A slice of cells, in a block that isn't of S. -/
def RunV (w : World) (S : Nat → Prop) (v : Value) (l : List CellR) : Prop :=
  ∃ ao cap, v = .slice ao l.length cap ∧ l.length ≤ cap ∧ cap ≤ maxLen ∧ (l = [] ∨ ∃ b o, ao = some ⟨b, o, none⟩ ∧ ¬ S b ∧ CellsAt w b o l)
theorem RunV.mod {S : Nat → Prop} {w w' : World} {v : Value} {l : List CellR} (h : RunV w S v l) (hm : Mod S w w') : RunV w' S v l := by
  obtain ⟨ao, cap, h1, h2, h3, h4⟩ := h
  refine ⟨ao, cap, h1, h2, h3, ?_⟩
  rcases h4 with h4 | ⟨b, o, h5, h6, h7⟩
  · exact .inl h4
  · exact .inr ⟨b, o, h5, h6, h7.mod hm h6⟩
/-- Runs in a block. -/
structure Els (w : World) (g : Nat) (S : Nat → Prop) (H : List RunR) : Prop where
  lt : g < w.heap.size
  free : ∀ o, w.frozen? ⟨g, o, none⟩ = false
  el : ∀ k (hk : k < H.length), ∃ v, w.cell? ⟨g, k * 2, none⟩ = some v ∧ w.cell? ⟨g, k * 2 + 1, none⟩ = some (.int .i64 (H[k].2 : Nat)) ∧ RunV w S v H[k].1
theorem Els.below {w w' : World} {g : Nat} {S : Nat → Prop} {H : List RunR} (h : Els w g S H) (hb : Below w.heap.size w w') : Els w' g S H :=
  ⟨Nat.lt_of_lt_of_le h.lt hb.size, fun o => by rw [hb.frozen (p := ⟨g, o, none⟩) (by exact h.lt)]; exact h.free o, fun k hk => by
    obtain ⟨v, h1, h2, h3⟩ := h.el k hk
    exact ⟨v, by rw [hb.cell (by exact h.lt)]; exact h1, by rw [hb.cell (by exact h.lt)]; exact h2, h3.mod (Mod.of_below hb (Nat.le_refl _))⟩⟩

theorem hd_eq (r : RunR) (h : 0 < r.1.length) : hd r = r.1[0] := by
  unfold hd
  obtain ⟨l, p⟩ := r
  cases l with
  | nil => simp at h
  | cons x l => rfl
theorem less_at (g cap i j : Nat) (S : Nat → Prop) (H : List RunR) (w : World) (hE : Els w g S H) (hcap : H.length ≤ cap) (hcap2 : cap ≤ maxLen) (hi : i < H.length) (hj : j < H.length) (h1 : H[i].1 ≠ []) (h2 : H[j].1 ≠ []) :
    Calls Try.prog 69 #[.slice (some ⟨g, 0, none⟩) H.length cap, .int .i64 i, .int .i64 j] w fun e w' => e = .returned (.bool (runLt H[i] H[j])) ∧ Below w.heap.size w w' := by
  obtain ⟨vi, a1, a2, aoi, ci, rfl, ai1, ai2, ai3⟩ := hE.el i hi
  obtain ⟨vj, b1, b2, aoj, cj, rfl, bj1, bj2, bj3⟩ := hE.el j hj
  have hli : 0 < H[i].1.length := List.length_pos_iff.2 h1
  have hlj : 0 < H[j].1.length := List.length_pos_iff.2 h2
  rcases ai3 with h | ⟨bi, oi, rfl, _, hci⟩
  · exact absurd h h1
  rcases bj3 with h | ⟨bj, oj, rfl, _, hcj⟩
  · exact absurd h h2
  have c1 := hci.2 0 hli
  have c2 := hcj.2 0 hlj
  simp only [Nat.zero_mul, Nat.add_zero] at c1 c2
  exact less_r (runLt H[i] H[j]) g cap H.length i j (H[i].1[0]).ver (H[j].1[0]).ver H[i].2 H[j].2 (by unfold runLt Pl.lt2; rw [hd_eq _ hli, hd_eq _ hlj]) bi oi _ ci bj oj _ cj w hi hj hcap hcap2 hli hlj ai1 bj1 ai2 bj2 a1 a2 b1 b2 c1.1 c1.2.1 c1.2.2.1 c2.1 c2.2.1 c2.2.2.1

set_option maxHeartbeats 800000 in
theorem len_ok (v : Option Addr) (n cap : Nat) (w : World) : Calls Try.prog 68 #[.slice v n cap] w fun e w' => e = .returned (.int .i64 n) ∧ w = w' := by
  go_enter Try.func68, Try.ntmps68
  go_wp2
  go_ret
  exact ⟨rfl, rfl⟩

set_option maxHeartbeats 1600000 in
theorem swap_cells (g cap n i j : Nat) (vi vj : Value) (p q : Int) (ai aj : Option Addr) (ni ci nj cj : Nat) (w : World) (hij : i < j) (hj : j < n) (hn : n ≤ cap) (hcap : cap ≤ maxLen) (hvi : vi = .slice ai ni ci) (hvj : vj = .slice aj nj cj)
    (i1 : w.cell? ⟨g, i * 2, none⟩ = some vi) (i2 : w.cell? ⟨g, i * 2 + 1, none⟩ = some (.int .i64 p)) (j1 : w.cell? ⟨g, j * 2, none⟩ = some vj) (j2 : w.cell? ⟨g, j * 2 + 1, none⟩ = some (.int .i64 q))
    (f : ∀ o, w.frozen? ⟨g, o, none⟩ = false) :
    Calls Try.prog 70 #[.slice (some ⟨g, 0, none⟩) n cap, .int .i64 i, .int .i64 j] w fun e w' => e = .returned (.tuple #[]) ∧ w' = ((((w.setCell ⟨g, i * 2, none⟩ vj).setCell ⟨g, i * 2 + 1, none⟩ (.int .i64 q)).setCell ⟨g, j * 2, none⟩ vi).setCell ⟨g, j * 2 + 1, none⟩ (.int .i64 p)).drew := by
  subst hvi hvj
  unfold maxLen at *
  have x1 : (0 : Int) ≤ i := by omega
  have x2 : (i : Int) < n := by omega
  have x3 : (0 : Int) ≤ j := by omega
  have x4 : (j : Int) < n := by omega
  have hi : i < n := by omega
  have f0 := f (i * 2)
  have f1 := f (i * 2 + 1)
  have f2 := f (j * 2)
  have f3 := f (j * 2 + 1)
  clear f
  go_enter Try.func70, Try.ntmps70
  go_wp2
  go_region
  all_goals (try go_wp2)
  all_goals go_end0
  all_goals exact ⟨rfl, rfl⟩
set_option maxHeartbeats 1600000 in
theorem swap_same (g cap n i : Nat) (vi : Value) (p : Int) (ai : Option Addr) (ni ci : Nat) (w : World) (hj : i < n) (hn : n ≤ cap) (hcap : cap ≤ maxLen) (hvi : vi = .slice ai ni ci)
    (i1 : w.cell? ⟨g, i * 2, none⟩ = some vi) (i2 : w.cell? ⟨g, i * 2 + 1, none⟩ = some (.int .i64 p))
    (f : ∀ o, w.frozen? ⟨g, o, none⟩ = false) :
    Calls Try.prog 70 #[.slice (some ⟨g, 0, none⟩) n cap, .int .i64 i, .int .i64 i] w fun e w' => e = .returned (.tuple #[]) ∧ w' = ((((w.setCell ⟨g, i * 2, none⟩ vi).setCell ⟨g, i * 2 + 1, none⟩ (.int .i64 p)).setCell ⟨g, i * 2, none⟩ vi).setCell ⟨g, i * 2 + 1, none⟩ (.int .i64 p)).drew := by
  subst hvi
  unfold maxLen at *
  have x1 : (0 : Int) ≤ i := by omega
  have x2 : (i : Int) < n := by omega
  have f0 := f (i * 2)
  have f1 := f (i * 2 + 1)
  clear f
  go_enter Try.func70, Try.ntmps70
  go_wp2
  go_region
  all_goals (try go_wp2)
  all_goals go_end0
  all_goals exact ⟨rfl, rfl⟩

theorem mod_setCell (w : World) (g o : Nat) (v : Value) : Mod (· = g) w (w.setCell ⟨g, o, none⟩ v) :=
  ⟨World.os_setCells w g o [v], rfl, World.output_setCells w g o [v], by simp, fun k hk hne => World.heap_setCells_other w g o [v] hk hne⟩
theorem Mod.drew {S : Nat → Prop} {w w' : World} (h : Mod S w w') : Mod S w w'.drew := ⟨h.os, h.tape, h.output, h.size, h.block⟩
theorem mod_setCells (g : Nat) : ∀ (vs : List Value) (o : Nat) (w : World), Mod (· = g) w (w.setCells g o vs)
  | [], _, w => Mod.refl _ w
  | v :: vs, o, w => (mod_setCell w g o v).trans (mod_setCells g vs (o + 1) (w.setCell ⟨g, o, none⟩ v))
/-- Two runs' cells written. -/
theorem els_swap {w w' : World} {g i j : Nat} {S : Nat → Prop} {H : List RunR} (hS : S g) (hE : Els w g S H) (hij : i ≤ j) (hj : j < H.length) (vi vj : Value)
    (i1 : w.cell? ⟨g, i * 2, none⟩ = some vi) (hvi : RunV w S vi (H[i]'(by omega)).1) (j1 : w.cell? ⟨g, j * 2, none⟩ = some vj) (hvj : RunV w S vj H[j].1)
    (hw : w' = ((w.setCells g (i * 2) [vj, .int .i64 (H[j].2 : Nat)]).setCells g (j * 2) [vi, .int .i64 ((H[i]'(by omega)).2 : Nat)]).drew) : Els w' g S (Pl.sw H i j) ∧ Mod (· = g) w w' := by
  have hi : i < H.length := by omega
  have hm : Mod (· = g) w w' := by
    rw [hw]
    exact ((mod_setCells g _ _ w).trans (mod_setCells g _ _ _)).drew
  have hmS : Mod S w w' := hm.mono (fun k hk => hk ▸ hS)
  refine ⟨⟨Nat.lt_of_lt_of_le hE.lt hm.size, fun o => ?_, fun k hk => ?_⟩, hm⟩
  · rw [hw]
    show ((w.setCells g (i * 2) _).setCells g (j * 2) _).frozen? _ = false
    rw [World.frozen?_setCells, World.frozen?_setCells]; exact hE.free o
  · have hkl : k < H.length := by rw [Pl.sw_len] at hk; exact hk
    have some_at : ∀ (W : World), (∀ m, m < H.length → (W.cell? ⟨g, m * 2, none⟩).isSome = true ∧ (W.cell? ⟨g, m * 2 + 1, none⟩).isSome = true) → ∀ m, m < H.length → ∀ (a b : Value) t, t < [a, b].length → (W.cell? ⟨g, m * 2 + t, none⟩).isSome = true := by
      intro W h m hm a b t ht
      have : t = 0 ∨ t = 1 := by simp at ht; omega
      rcases this with rfl | rfl
      · exact (h m hm).1
      · exact (h m hm).2
    have h0 : ∀ m, m < H.length → (w.cell? ⟨g, m * 2, none⟩).isSome = true ∧ (w.cell? ⟨g, m * 2 + 1, none⟩).isSome = true := fun m hm => by
      obtain ⟨v, h1, h2, _⟩ := hE.el m hm
      rw [h1, h2]; exact ⟨rfl, rfl⟩
    obtain ⟨w1, hw1⟩ : ∃ W, w.setCells g (i * 2) [vj, .int .i64 (H[j].2 : Nat)] = W := ⟨_, rfl⟩
    rw [hw1] at hw
    have in1 : ∀ t (ht : t < 2), w1.cell? ⟨g, i * 2 + t, none⟩ = some ([vj, .int .i64 (H[j].2 : Nat)][t]'(by simpa using ht)) := fun t ht => by
      rw [← hw1]; exact World.cell?_setCells_in g _ _ w (some_at w h0 i hi _ _) t (by simpa using ht)
    have out1 : ∀ m, m ≠ i → ∀ t, t < 2 → w1.cell? ⟨g, m * 2 + t, none⟩ = w.cell? ⟨g, m * 2 + t, none⟩ := fun m hm t ht => by
      rw [← hw1]; exact World.cell?_setCells_out g _ _ w _ (fun _ _ => by show m * 2 + t < i * 2 ∨ i * 2 + 2 ≤ m * 2 + t; omega)
    have h1 : ∀ m, m < H.length → (w1.cell? ⟨g, m * 2, none⟩).isSome = true ∧ (w1.cell? ⟨g, m * 2 + 1, none⟩).isSome = true := fun m hm => by
      by_cases hmi : m = i
      · subst hmi
        have a := in1 0 (by decide)
        have b := in1 1 (by decide)
        rw [Nat.add_zero] at a
        rw [a, b]; exact ⟨rfl, rfl⟩
      · have a := out1 m hmi 0 (by decide)
        have b := out1 m hmi 1 (by decide)
        rw [Nat.add_zero] at a
        rw [a, b]; exact h0 m hm
    have in2 : ∀ t (ht : t < 2), w'.cell? ⟨g, j * 2 + t, none⟩ = some ([vi, .int .i64 (H[i].2 : Nat)][t]'(by simpa using ht)) := fun t ht => by
      rw [hw]; exact World.cell?_setCells_in g _ _ w1 (some_at w1 h1 j hj _ _) t (by simpa using ht)
    have out2 : ∀ m, m ≠ j → ∀ t, t < 2 → w'.cell? ⟨g, m * 2 + t, none⟩ = w1.cell? ⟨g, m * 2 + t, none⟩ := fun m hm t ht => by
      rw [hw]; exact World.cell?_setCells_out g _ _ w1 _ (fun _ _ => by show m * 2 + t < j * 2 ∨ j * 2 + 2 ≤ m * 2 + t; omega)
    by_cases hkj : k = j
    · subst hkj
      have e : (Pl.sw H i k)[k]? = some H[i] := by rw [Pl.sw_right H i k hi hj]; simp [hi]
      have e2 : (Pl.sw H i k)[k] = H[i] := by rw [List.getElem?_eq_getElem hk] at e; exact Option.some.inj e
      rw [e2]
      exact ⟨vi, in2 0 (by decide), in2 1 (by decide), hvi.mod hmS⟩
    · by_cases hki : k = i
      · subst hki
        have e : (Pl.sw H k j)[k]? = some H[j] := by rw [Pl.sw_left H k j hi hj]; simp [hj]
        have e2 : (Pl.sw H k j)[k] = H[j] := by rw [List.getElem?_eq_getElem hk] at e; exact Option.some.inj e
        rw [e2]
        exact ⟨vj, (out2 k hkj 0 (by decide)).trans (in1 0 (by decide)), (out2 k hkj 1 (by decide)).trans (in1 1 (by decide)), hvj.mod hmS⟩
      · have e : (Pl.sw H i j)[k]? = some H[k] := by rw [Pl.sw_other H i j k hki hkj]; simp [hkl]
        have e2 : (Pl.sw H i j)[k] = H[k] := by rw [List.getElem?_eq_getElem hk] at e; exact Option.some.inj e
        obtain ⟨v, a, b, c⟩ := hE.el k hkl
        rw [e2]
        exact ⟨v, ((out2 k hkj 0 (by decide)).trans (out1 k hki 0 (by decide))).trans a, ((out2 k hkj 1 (by decide)).trans (out1 k hki 1 (by decide))).trans b, c.mod hmS⟩
theorem swap_at (g cap i j : Nat) (S : Nat → Prop) (H : List RunR) (w : World) (hS : S g) (hE : Els w g S H) (hcap : H.length ≤ cap) (hcap2 : cap ≤ maxLen) (hij : i ≤ j) (hj : j < H.length) :
    Calls Try.prog 70 #[.slice (some ⟨g, 0, none⟩) H.length cap, .int .i64 i, .int .i64 j] w fun e w' => e = .returned (.tuple #[]) ∧ Els w' g S (Pl.sw H i j) ∧ Mod (· = g) w w' := by
  have hi : i < H.length := by omega
  obtain ⟨vi, a1, a2, a3⟩ := hE.el i hi
  obtain ⟨vj, b1, b2, b3⟩ := hE.el j hj
  have a4 := a3
  have b4 := b3
  obtain ⟨ai, ci, hvi, _⟩ := a3
  obtain ⟨aj, cj, hvj, _⟩ := b3
  by_cases h : i = j
  · subst h
    refine (swap_same g cap H.length i vi H[i].2 ai _ ci w hj hcap hcap2 hvi a1 a2 hE.free).mono ?_
    rintro e w' ⟨rfl, hw⟩
    exact ⟨rfl, els_swap hS hE hij hj vi vi a1 a4 a1 a4 hw⟩
  · refine (swap_cells g cap H.length i j vi vj H[i].2 H[j].2 ai aj _ ci _ cj w (by omega) hj hcap hcap2 hvi hvj a1 a2 b1 b2 hE.free).mono ?_
    rintro e w' ⟨rfl, hw⟩
    exact ⟨rfl, els_swap hS hE hij hj vi vj a1 a4 b1 b4 hw⟩
end Go.Proofs.Ytcgkpgjjifggcaa
