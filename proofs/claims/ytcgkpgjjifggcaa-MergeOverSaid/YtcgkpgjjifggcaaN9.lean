/-
  Merge: contract of the merger's Next.
-/
import Derived.Test.YtcgkpgjjifggcaaN8
namespace Go.Proofs.Ytcgkpgjjifggcaa
set_option linter.unusedVariables false
set_option linter.unusedSimpArgs false
open Go.RowKit Sl

theorem below_dn {B : Nat} {a w : World} (h : Below B a w) (n : Nat) : Below B a (w.drewN n) := ⟨h.os, h.tape, h.output, h.size, h.block⟩
set_option maxHeartbeats 1600000 in
theorem next_nil (w : World) : Calls Try.prog 18 #[.pointer none] w fun e w' => e = .returned (.tuple #[noCell.value, .int .i64 1]) ∧ Below w.heap.size w w' := by
  unfold CellR.value noCell
  go_enter Try.func18, Try.ntmps18
  go_wp2
  refine bodyPost_ret (v := .tuple #[.agg #[.string ⟨#[]⟩, .int .i64 0, .int .i64 0, .string ⟨#[]⟩], .int .i64 1]) (by simp [results, Try.results18, go_sem]) rfl ⟨rfl, ?_⟩
  exact (Below.refl _ _).alloc (Nat.le_refl _) _

set_option maxHeartbeats 1600000 in
theorem next_end (w : World) (M B E : Nat) (h : Mg w M B E []) :
    Calls Try.prog 18 #[.pointer (some ⟨M, 0, none⟩)] w fun e w' => e = .returned (.tuple #[noCell.value, .int .i64 15]) ∧ Below w.heap.size w w' := by
  obtain ⟨ao, cap, ht⟩ := h.nil
  have hM := cell_lt ht
  clear h
  unfold CellR.value noCell
  go_enter Try.func18, Try.ntmps18
  go_wp2
  refine bodyPost_ret (v := .tuple #[.agg #[.string ⟨#[]⟩, .int .i64 0, .int .i64 0, .string ⟨#[]⟩], .int .i64 15]) (by simp [results, Try.results18, go_sem]) rfl ⟨rfl, ?_⟩
  exact (Below.refl _ _).alloc (Nat.le_refl _) _

theorem Mod.new {S : Nat → Prop} {w w' : World} (h : Mod S w w') (X : Obj) : Mod S w (w'.alloc X) :=
  h.trans (Mod.of_below ((Below.refl _ _).alloc (Nat.le_refl _) _) (Nat.le_refl _))
/-- A cell lies there; may be written. -/
structure Box (w : World) (k : Nat) (c : CellR) : Prop where
  key : w.cell? ⟨k, 0, none⟩ = some (.string c.ver.key)
  seq : w.cell? ⟨k, 1, none⟩ = some (.int .i64 c.ver.seq)
  kind : w.cell? ⟨k, 2, none⟩ = some (.int .i64 c.ver.kind)
  val : w.cell? ⟨k, 3, none⟩ = some (.string c.val)
  free : ∀ o, w.frozen? ⟨k, o, none⟩ = false
theorem Box.lt {w : World} {k : Nat} {c : CellR} (h : Box w k c) : k < w.heap.size := cell_lt h.key
theorem Box.mod {S : Nat → Prop} {w w' : World} {k : Nat} {c : CellR} (h : Box w k c) (hm : Mod S w w') (hk : ¬ S k) : Box w' k c :=
  ⟨by rw [hm.cell k 0 h.lt hk]; exact h.key, by rw [hm.cell k 1 h.lt hk]; exact h.seq, by rw [hm.cell k 2 h.lt hk]; exact h.kind, by rw [hm.cell k 3 h.lt hk]; exact h.val, fun o => by rw [hm.frozen k o h.lt hk]; exact h.free o⟩
theorem Box.new (w : World) (c : CellR) : Box (w.alloc (.cells #[.string c.ver.key, .int .i64 c.ver.seq, .int .i64 c.ver.kind, .string c.val] 42)) w.heap.size c :=
  ⟨by simp [go_sem], by simp [go_sem], by simp [go_sem], by simp [go_sem], fun o => by simp [go_sem]⟩
theorem Box.none (w : World) : Box (w.alloc (.cells #[.string ⟨#[]⟩, .int .i64 0, .int .i64 0, .string ⟨#[]⟩] 42)) w.heap.size noCell := Box.new w noCell

set_option maxHeartbeats 3200000 in
theorem next_ok (w : World) (M B E : Nat) (c : CellR) (i : Nat) (U : List (CellR × Nat)) (h : Mg w M B E ((c, i) :: U)) :
    Calls Try.prog 18 #[.pointer (some ⟨M, 0, none⟩)] w fun e w' => e = .returned (.tuple #[c.value, .int .i64 0]) ∧ Mg w' M B E (Pl.past CellR.ver c.ver U) ∧ Mod (Mid B E) w w' := by
  obtain ⟨g, n, cap, bb, o, m, cc, hn0, hn, hcap, ht, _⟩ := h.head
  unfold maxLen at hcap
  have hM := cell_lt ht
  have hME := h.2.1
  have hEw := h.2.2.1
  have HT := Lib.hid (mg_take (w.alloc (.cells #[.string ⟨#[]⟩, .int .i64 0, .int .i64 0, .string ⟨#[]⟩] 42)) M B E c i U (h.later ((Below.refl E w).alloc hEw _)))
  clear h
  unfold CellR.value at *
  go_enter Try.func18, Try.ntmps18
  go_wp2_with fail
  refine (HT.out).mono ?_
  rintro e w1 ⟨rfl, hg1, hm1⟩
  clear ht hn hn0 hcap HT
  have hsz := hm1.size
  simp at hsz
  have HB1 := Lib.hid ((Box.none w).mod hm1 (fun h => by have := h.2; omega))
  have HM1 := Lib.hid (((Mod.refl (Mid B E) w).new (.cells #[.string ⟨#[]⟩, .int .i64 0, .int .i64 0, .string ⟨#[]⟩] 42)).trans hm1)
  have HG1 := Lib.hid hg1
  clear hm1 hg1
  have hkc : ¬ Mid B E w1.heap.size := fun h => by have := h.2; omega
  have hkr : ¬ Mid B E w.heap.size := fun h => by have := h.2; omega
  go_wp2_with fail
  go_loopg [39] (U.length + 1) (fun k s wr => ∃ V, k = V.length + 1 ∧ Hid (Pl.past CellR.ver c.ver V = Pl.past CellR.ver c.ver U) ∧ Hid (Mg wr M B E V) ∧ Hid (Box wr w.heap.size noCell) ∧ Hid (Box wr w1.heap.size c) ∧ Hid (Mod (Mid B E) w wr))
  case atStart => exact ⟨U, rfl, Lib.hid rfl, Lib.hid (HG1.out.later ((Below.refl E w1).alloc (by omega) _)), Lib.hid (HB1.out.mod (Mod.new (Mod.refl (Mid B E) w1) _) hkr), Lib.hid (Box.new w1 c), Lib.hid (HM1.out.new _)⟩
  case round =>
    obtain ⟨V, rfl, HP, HG, HR, HC, HM⟩ := hrel
    have r0 := HR.out.key
    have r1 := HR.out.seq
    have r2 := HR.out.kind
    have r3 := HR.out.val
    have rf := HR.out.free
    have q0 := HC.out.key
    have q1 := HC.out.seq
    have q2 := HC.out.kind
    have q3 := HC.out.val
    have hfin : ∀ (nq : Nat) (w' : World), Hid (Pl.past CellR.ver c.ver V = V) → (((((wr.drewN nq).setCell ⟨w.heap.size, 0, none⟩ (.string c.ver.key)).setCell ⟨w.heap.size, 1, none⟩ (.int .i64 c.ver.seq)).setCell ⟨w.heap.size, 2, none⟩ (.int .i64 c.ver.kind)).setCell ⟨w.heap.size, 3, none⟩ (.string c.val)) = w' → Mg w' M B E (Pl.past CellR.ver c.ver U) ∧ Mod (Mid B E) w w' := fun nq w' hp hw => by
      subst hw
      rw [← HP.out, hp.out]
      exact ⟨HG.out.later (((((below_dn (Below.refl E wr) nq).setCell hEw _).setCell hEw _).setCell hEw _).setCell hEw _), ((((HM.out.drawn nq).fresh _ 0 (Nat.le_refl _) _).fresh _ 1 (Nat.le_refl _) _).fresh _ 2 (Nat.le_refl _) _).fresh _ 3 (Nat.le_refl _) _⟩
    have HFIN := Lib.hid hfin
    clear hfin
    cases V with
    | nil =>
      obtain ⟨ao, cap, ht⟩ := HG.out.nil
      have hp := Lib.hid (Pl.past_nil CellR.ver c.ver)
      go_wp2_with fail
      go_quiet (fail)
      go_wp2
      refine bodyPost_ret (v := .tuple #[.agg #[.string c.ver.key, .int .i64 c.ver.seq, .int .i64 c.ver.kind, .string c.val], .int .i64 0]) (by simp [results, Try.results18, go_sem, r0, r1, r2, r3]) rfl ⟨rfl, ?_⟩
      exact HFIN.out _ _ hp rfl
    | cons x V =>
      obtain ⟨d, j⟩ := x
      obtain ⟨g, n, cap, bb, o, m, cc, hn0, hn, hcap, ht, hu, hm, hcc, x1, x2, x3⟩ := HG.out.head
      unfold maxLen at hcap hcc
      have hn1 : (0 : Int) < n := by omega
      have HE : Hid (∀ w', (binOp .eql 40 (.agg #[.string d.ver.key, .int .i64 d.ver.seq, .int .i64 d.ver.kind]) (.agg #[.string c.ver.key, .int .i64 c.ver.seq, .int .i64 c.ver.kind])).run Try.prog w' = .ok (.bool (decide (d.ver = c.ver))) w') := Lib.hid (fun w' => run_verEq d.ver c.ver w')
      obtain ⟨b, hb⟩ : ∃ b, decide (d.ver = c.ver) = b := ⟨_, rfl⟩
      have HBB := Lib.hid hb
      rw [hb] at HE
      have he := HE.out
      clear hb HE
      cases b with
      | false =>
        have hp := Lib.hid (Pl.past_other CellR.ver c.ver (d, j) V (of_decide_eq_false HBB.out))
        go_wp2_with fail
        go_quiet (fail)
        go_wp2
        refine bodyPost_ret (v := .tuple #[.agg #[.string c.ver.key, .int .i64 c.ver.seq, .int .i64 c.ver.kind, .string c.val], .int .i64 0]) (by simp [results, Try.results18, go_sem, r0, r1, r2, r3]) rfl ⟨rfl, ?_⟩
        exact HFIN.out _ _ hp rfl
      | true =>
        have HT2 := Lib.hid (fun nq => mg_take (wr.drewN nq) M B E d j V (HG.out.later (below_dn (Below.refl E wr) nq)))
        have HPP := Lib.hid (Pl.past_same CellR.ver c.ver (d, j) V (of_decide_eq_true HBB.out))
        go_wp2_with fail
        go_quiet (fail)
        go_wp2_with fail
        refine (HT2.out _).mono ?_
        rintro e w2 ⟨rfl, hg2, hm2⟩
        have HG2 := Lib.hid hg2
        have HM2 := Lib.hid ((HM.out.drawn nq).trans hm2)
        have HM3 := Lib.hid (((Mod.refl (Mid B E) wr).drawn nq).trans hm2)
        clear hg2 hm2
        go_wp2
        go_roundg (V.length + 1)
        case measure => simp
        case rel => exact ⟨V, rfl, Lib.hid (HPP.out.symm.trans HP.out), HG2, Lib.hid (HR.out.mod HM3.out hkr), Lib.hid (HC.out.mod HM3.out hkc), HM2⟩
end Go.Proofs.Ytcgkpgjjifggcaa
