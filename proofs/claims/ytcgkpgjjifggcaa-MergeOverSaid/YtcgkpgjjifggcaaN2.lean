/-
  Merge: cells and runs in memory; contracts of the methods of runs.
-/
import Derived.Test.YtcgkpgjjifggcaaN1
import Derived.Test.YtcgkpgjjifggcaaG2
import Derived.Deep.RegionHeld3
import Derived.Deep.DeepCutAuto
import Derived.RegionTactic
import Derived.BigRegion
import Derived.Test.YtcgkpgjjifggcaaQ1
namespace Go.Proofs.Ytcgkpgjjifggcaa
set_option linter.unusedVariables false
set_option linter.unusedSimpArgs false
open Go.RowKit Sl
attribute [local go_sem] Qu.plus_cell Qu.plus_frozen

/-- Only blocks of S are turned. -/
structure Mod (S : Nat → Prop) (w w' : World) : Prop where
  os : w'.os = w.os
  tape : w'.tape = w.tape
  output : w'.output = w.output
  size : w.heap.size ≤ w'.heap.size
  block : ∀ k, k < w.heap.size → ¬ S k → w'.heap[k]? = w.heap[k]?
theorem Mod.refl (S : Nat → Prop) (w : World) : Mod S w w := ⟨rfl, rfl, rfl, Nat.le_refl _, fun _ _ _ => rfl⟩
theorem Mod.trans {S : Nat → Prop} {w a b : World} (h : Mod S w a) (k : Mod S a b) : Mod S w b :=
  ⟨k.os.trans h.os, k.tape.trans h.tape, k.output.trans h.output, Nat.le_trans h.size k.size, fun i hi hs => (k.block i (Nat.lt_of_lt_of_le hi h.size) hs).trans (h.block i hi hs)⟩
theorem Mod.of_below {S : Nat → Prop} {w w' : World} {B : Nat} (h : Below B w w') (hB : w.heap.size ≤ B) : Mod S w w' :=
  ⟨h.os, h.tape, h.output, h.size, fun k hk _ => h.block k (Nat.lt_of_lt_of_le hk hB)⟩
theorem Mod.below {S : Nat → Prop} {w w' : World} {B : Nat} (h : Mod S w w') (hS : ∀ k, S k → B ≤ k) (hB : B ≤ w.heap.size) : Below B w w' :=
  ⟨h.os, h.tape, h.output, h.size, fun k hk => h.block k (Nat.lt_of_lt_of_le hk hB) (fun hs => by have := hS k hs; omega)⟩
theorem Mod.mono {S T : Nat → Prop} {w w' : World} (h : Mod S w w') (hS : ∀ k, S k → T k) : Mod T w w' :=
  ⟨h.os, h.tape, h.output, h.size, fun k hk ht => h.block k hk (fun hs => ht (hS k hs))⟩
theorem Mod.cell {S : Nat → Prop} {w w' : World} (h : Mod S w w') (g o : Nat) (hg : g < w.heap.size) (hs : ¬ S g) : w'.cell? ⟨g, o, none⟩ = w.cell? ⟨g, o, none⟩ := World.cell?_of_block (h.block g hg hs)
theorem Mod.frozen {S : Nat → Prop} {w w' : World} (h : Mod S w w') (g o : Nat) (hg : g < w.heap.size) (hs : ¬ S g) : w'.frozen? ⟨g, o, none⟩ = w.frozen? ⟨g, o, none⟩ := World.frozen?_of_block (h.block g hg hs)
theorem Mod.drawn {S : Nat → Prop} {w w' : World} (h : Mod S w w') (n : Nat) : Mod S w (w'.drewN n) := ⟨h.os, h.tape, h.output, h.size, h.block⟩

/-- The cells lie there. -/
def CellsAt (w : World) (g o : Nat) (l : List CellR) : Prop :=
  g < w.heap.size ∧ ∀ k (hk : k < l.length), w.cell? ⟨g, o + k * 4, none⟩ = some (.string l[k].ver.key) ∧ w.cell? ⟨g, o + k * 4 + 1, none⟩ = some (.int .i64 l[k].ver.seq) ∧
    w.cell? ⟨g, o + k * 4 + 2, none⟩ = some (.int .i64 l[k].ver.kind) ∧ w.cell? ⟨g, o + k * 4 + 3, none⟩ = some (.string l[k].val)
theorem CellsAt.later {w w' : World} {g o : Nat} {l : List CellR} (h : CellsAt w g o l) (hs : w.heap.size ≤ w'.heap.size) (hb : w'.heap[g]? = w.heap[g]?) : CellsAt w' g o l :=
  ⟨Nat.lt_of_lt_of_le h.1 hs, fun k hk => by
    obtain ⟨h1, h2, h3, h4⟩ := h.2 k hk
    exact ⟨by rw [World.cell?_of_block (w := w) (by exact hb)]; exact h1, by rw [World.cell?_of_block (w := w) (by exact hb)]; exact h2, by rw [World.cell?_of_block (w := w) (by exact hb)]; exact h3, by rw [World.cell?_of_block (w := w) (by exact hb)]; exact h4⟩⟩
theorem CellsAt.below {w w' : World} {g o B : Nat} {l : List CellR} (h : CellsAt w g o l) (hb : Below B w w') (hg : g < B) : CellsAt w' g o l := h.later hb.size (hb.block g hg)
theorem CellsAt.mod {S : Nat → Prop} {w w' : World} {g o : Nat} {l : List CellR} (h : CellsAt w g o l) (hm : Mod S w w') (hg : ¬ S g) : CellsAt w' g o l := h.later hm.size (hm.block g h.1 hg)
theorem CellsAt.tail {w : World} {g o : Nat} {c : CellR} {l : List CellR} (h : CellsAt w g o (c :: l)) : CellsAt w g (o + 4) l :=
  ⟨h.1, fun k hk => by
    have := h.2 (k + 1) (by simpa using hk)
    simp only [List.getElem_cons_succ] at this
    have e : o + (k + 1) * 4 = o + 4 + k * 4 := by omega
    rw [e] at this
    exact this⟩

/-- A run's order: by its first cell, then by its list. -/
abbrev RunR := List CellR × Nat
def noCell : CellR := ⟨⟨⟨#[]⟩, 0, 0⟩, ⟨#[]⟩⟩
def hd (r : RunR) : CellR := r.1.headD noCell
def runLt (a b : RunR) : Bool := Pl.lt2 CellR.ver verLt (hd a, a.2) (hd b, b.2)
theorem runLt_weak : Pl.Weak runLt := ⟨fun a b h => Pl.lt2_asym _ _ verLt_ord _ _ h, fun a b c h h2 => Pl.lt2_ntrans _ _ verLt_ord _ _ _ h h2⟩
theorem runLt_irr (a : RunR) : runLt a a = false := Pl.lt2_irr _ _ verLt_ord _

theorem run_verEq (x y : VerR) (w : World) : (binOp .eql 40 x.val y.val).run Try.prog w = .ok (.bool (decide (x = y))) w := by
  obtain ⟨a, q, d⟩ := x
  obtain ⟨b, r, f⟩ := y
  unfold VerR.val
  go_simp
  have e : a.toList = b.toList ↔ a = b := ⟨ofList_inj _ _, fun h => by rw [h]⟩
  simp only [e]
  by_cases h1 : a = b <;> by_cases h2 : q = r <;> by_cases h3 : d = f <;> simp [h1, h2, h3]
theorem cell_lt {w : World} {g o : Nat} {v : Value} (h : w.cell? ⟨g, o, none⟩ = some v) : g < w.heap.size := by
  by_cases hg : g < w.heap.size
  · exact hg
  · have h2 : w.heap[g]? = none := by simp [hg]
    simp [World.cell?, h2] at h

set_option maxHeartbeats 1600000 in
theorem less_r (r : Bool) (g cap n i j : Nat) (x y : VerR) (p q : Nat) (hr : r = (verLt x y || (decide (x = y) && decide (p < q)))) (bi oi ni ci bj oj nj cj : Nat) (w : World)
    (hi : i < n) (hj : j < n) (hn : n ≤ cap) (hcap : cap ≤ maxLen) (hni : 0 < ni) (hnj : 0 < nj) (hci : ni ≤ ci) (hcj : nj ≤ cj) (hci2 : ci ≤ maxLen) (hcj2 : cj ≤ maxLen)
    (i1 : w.cell? ⟨g, i * 2, none⟩ = some (.slice (some ⟨bi, oi, none⟩) ni ci)) (i2 : w.cell? ⟨g, i * 2 + 1, none⟩ = some (.int .i64 p))
    (j1 : w.cell? ⟨g, j * 2, none⟩ = some (.slice (some ⟨bj, oj, none⟩) nj cj)) (j2 : w.cell? ⟨g, j * 2 + 1, none⟩ = some (.int .i64 q))
    (a1 : w.cell? ⟨bi, oi, none⟩ = some (.string x.key)) (a2 : w.cell? ⟨bi, oi + 1, none⟩ = some (.int .i64 x.seq)) (a3 : w.cell? ⟨bi, oi + 2, none⟩ = some (.int .i64 x.kind))
    (b1 : w.cell? ⟨bj, oj, none⟩ = some (.string y.key)) (b2 : w.cell? ⟨bj, oj + 1, none⟩ = some (.int .i64 y.seq)) (b3 : w.cell? ⟨bj, oj + 2, none⟩ = some (.int .i64 y.kind)) :
    Calls Try.prog 69 #[.slice (some ⟨g, 0, none⟩) n cap, .int .i64 i, .int .i64 j] w fun e w' => e = .returned (.bool r) ∧ Below w.heap.size w w' := by
  unfold maxLen at *
  have HR := Lib.hid hr
  clear hr
  go_enter Try.func69, Try.ntmps69
  go_upto_region 1 with fail
  go_cut [7, 8] from 9 to 24 (fun s7 s8 wx => ∃ pa pb : Nat, s7 = .pointer (some ⟨pa, 0, none⟩) ∧ s8 = .pointer (some ⟨pb, 0, none⟩) ∧
    wx.cell? ⟨pa, 0, none⟩ = some (.string x.key) ∧ wx.cell? ⟨pa, 1, none⟩ = some (.int .i64 x.seq) ∧ wx.cell? ⟨pa, 2, none⟩ = some (.int .i64 x.kind) ∧
    wx.cell? ⟨pb, 0, none⟩ = some (.string y.key) ∧ wx.cell? ⟨pb, 1, none⟩ = some (.int .i64 y.seq) ∧ wx.cell? ⟨pb, 2, none⟩ = some (.int .i64 y.kind) ∧ Below w.heap.size w wx)
  case first =>
    go_region_held3 (fun w' => w'.cell? ⟨g, i * 2, none⟩ = some (.slice (some ⟨bi, oi, none⟩) ni ci) ∧ w'.cell? ⟨g, j * 2, none⟩ = some (.slice (some ⟨bj, oj, none⟩) nj cj) ∧
        w'.cell? ⟨bi, oi, none⟩ = some (.string x.key) ∧ w'.cell? ⟨bi, oi + 1, none⟩ = some (.int .i64 x.seq) ∧ w'.cell? ⟨bi, oi + 2, none⟩ = some (.int .i64 x.kind) ∧
        w'.cell? ⟨bj, oj, none⟩ = some (.string y.key) ∧ w'.cell? ⟨bj, oj + 1, none⟩ = some (.int .i64 y.seq) ∧ w'.cell? ⟨bj, oj + 2, none⟩ = some (.int .i64 y.kind))
      (go_keep) (fail)
    all_goals
      go_wp2_with fail
      go_meet
      first
        | exact ⟨w.heap.size, w.heap.size + 1, rfl, rfl, by simp [go_sem], by simp [go_sem], by simp [go_sem], by simp [go_sem], by simp [go_sem], by simp [go_sem], (((Below.refl _ _).alloc (Nat.le_refl _) _).alloc (by simp) _).drew⟩
        | exact ⟨w.heap.size + 1, w.heap.size, rfl, rfl, by simp [go_sem], by simp [go_sem], by simp [go_sem], by simp [go_sem], by simp [go_sem], by simp [go_sem], (((Below.refl _ _).alloc (Nat.le_refl _) _).alloc (by simp) _).drew⟩
  case rest =>
    obtain ⟨pa, pb, rfl, rfl, x1, x2, x3, y1, y2, y3, hb⟩ := hcut
    have lg := cell_lt i1
    have i2' := (hb.cell (p := ⟨g, i * 2 + 1, none⟩) lg).trans i2
    have j2' := (hb.cell (p := ⟨g, j * 2 + 1, none⟩) lg).trans j2
    have la := cell_lt x1
    have lb := cell_lt y1
    have lg' := cell_lt i2'
    have HB := Lib.hid hb
    have HL : Hid (∀ w', Calls Try.prog 39 #[.agg #[.string x.key, .int .i64 x.seq, .int .i64 x.kind], .agg #[.string y.key, .int .i64 y.seq, .int .i64 y.kind]] w' fun e w'' => e = .returned (.bool (verLt x y)) ∧ Below w'.heap.size w' w'') := Lib.hid (fun w' => ikeyLess_ok x y w')
    have HE : Hid (∀ w', (binOp .eql 40 (.agg #[.string x.key, .int .i64 x.seq, .int .i64 x.kind]) (.agg #[.string y.key, .int .i64 y.seq, .int .i64 y.kind])).run Try.prog w' = .ok (.bool (decide (x = y))) w') := Lib.hid (fun w' => run_verEq x y w')
    clear hb i1 i2 j1 j2 a1 a2 a3 b1 b2 b3 lg
    obtain ⟨b, hv⟩ : ∃ b, verLt x y = b := ⟨_, rfl⟩
    obtain ⟨c, hc⟩ : ∃ c, decide (x = y) = c := ⟨_, rfl⟩
    rw [hv] at HL HR
    rw [hc] at HE HR
    clear hv hc
    have HLE : Hid (Below w.heap.size w wc) := HB
    cases b with
    | true =>
      clear HE
      go_wp2_with fail
      refine Qu.wp_region_plus (by kernel_rfl) (by kernel_rfl) ?_
      repeat (go_big_quiet_step ((refine Qu.plus_call (HL.out _))))
      refine wpQuiet_nil ?_
      rintro _ ⟨X, rfl⟩
      have hbx := Qu.plus_below wc X
      go_wp2
      go_ret
      exact ⟨by rw [HR.out]; rfl, HB.out.trans (hbx.mono HB.out.size)⟩
    | false =>
      have he := HE.out
      clear HE
      cases c with
      | true =>
        have hpq : decide ((p : Int) < q) = decide (p < q) := decide_eq_decide.2 (by omega)
        have HPQ := Lib.hid hpq
        clear hpq
        go_wp2_with fail
        refine Qu.wp_region_plus (by kernel_rfl) (by kernel_rfl) ?_
        repeat (go_big_quiet_step ((refine Qu.plus_call (HL.out _))))
        refine wpQuiet_nil ?_
        rintro _ ⟨X, rfl⟩
        have hbx := Qu.plus_below wc X
        go_wp2
        go_ret
        exact ⟨by rw [HR.out, ← HPQ.out]; rfl, HB.out.trans (hbx.mono HB.out.size)⟩
      | false =>
        go_wp2_with fail
        refine Qu.wp_region_plus (by kernel_rfl) (by kernel_rfl) ?_
        repeat (go_big_quiet_step ((refine Qu.plus_call (HL.out _))))
        refine wpQuiet_nil ?_
        rintro _ ⟨X, rfl⟩
        have hbx := Qu.plus_below wc X
        go_wp2
        go_ret
        exact ⟨by rw [HR.out]; rfl, HB.out.trans (hbx.mono HB.out.size)⟩
end Go.Proofs.Ytcgkpgjjifggcaa
