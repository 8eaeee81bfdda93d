/-
  Merge: All's row is its own, no cell frozen; a row made with room to spare.
-/
import Derived.Test.YtcgkpgjjifggcaaN39
namespace Go.Proofs.Ytcgkpgjjifggcaa
set_option linter.unusedVariables false
set_option linter.unusedSimpArgs false
open Go.RowKit Sl

def AllOwn (L : List (List CellR)) (w : World) (e : Ending) (w' : World) : Prop :=
  (1000 < L.length ∧ e = .returned (.tuple #[.slice none 0 0, .int .i64 14]) ∧ Below w.heap.size w w') ∨
  (L.length ≤ 1000 ∧ ¬ Sorted L ∧ e = .returned (.tuple #[.slice none 0 0, .int .i64 2]) ∧ Below w.heap.size w w') ∨
  (L.length ≤ 1000 ∧ Sorted L ∧ ∃ v', e = .returned (.tuple #[v', .int .i64 0]) ∧ w'.ownsRow w.heap.size 42 4 v' (docA L).length (flat CellR.cells (docA L)) ∧ Below w.heap.size w w')
theorem own_base_le {w : World} {base base' : Nat} {e : TypeId} {size : Nat} {v : Value} {n : Nat} {xs : List Value} (h : w.ownsRow base e size v n xs) (hb : base' ≤ base) : w.ownsRow base' e size v n xs := by
  refine ⟨h.1, ?_⟩
  rcases h.2 with h2 | ⟨g, cap, cur, hv, h3, h4⟩
  · exact .inl h2
  · exact .inr ⟨g, cap, cur, hv, by omega, h4⟩

set_option maxHeartbeats 3200000 in
theorem all_own (v : Value) (L : List (List CellR)) (S : Nat → Prop) (w : World) (h : LV w S v L) (hb : L.length ≤ 1000) (hbig : total L ≤ 1000000) :
    Calls Try.prog 11 #[v] w (AllOwn L w) := by
  obtain ⟨i0, hi, hz0, hz1, hz2⟩ := info_parts Try.infoCell
  have HC := Lib.hid (new_ok v L S w h hb (fun l hl => Nat.le_trans (le_total L l hl) hbig))
  have HB := Lib.hid hb
  have HT := Lib.hid hbig
  clear h hb hbig
  go_enter Try.func11, Try.ntmps11
  go_wp2_with fail
  refine (HC.out).mono ?_
  rintro e w1 (⟨hs, rfl, hb1⟩ | ⟨hs, M, E, T, rfl, hg, hT, hb1⟩)
  · go_wp2
    go_ret2
    exact .inr (.inl ⟨HB.out, hs, rfl, hb1⟩)
  · have HG := Lib.hid hg
    have HTT := Lib.hid hT
    have HB1 := Lib.hid hb1
    have HS := Lib.hid hs
    have HEB := Lib.hid hg.2.2.1
    have HBE : Hid (w.heap.size ≤ E) := Lib.hid (by have h1 := hg.1; have h2 := hg.2.1; omega)
    have HTL := Lib.hid (row_total L T hT)
    clear hg hT hb1 hs HC
    go_wp2
    go_loopg [6] (T.length + 1) (fun k s wr => ∃ V D, k = V.length + 1 ∧ Hid (Pl.dd CellR.ver T = D ++ Pl.dd CellR.ver V) ∧ Hid (D.length + V.length ≤ T.length) ∧ Hid (Mg wr M w.heap.size E V) ∧ Hid (wr.ownsRow E 42 4 s D.length (flat CellR.cells D)) ∧ Hid (Below w.heap.size w wr))
    case atStart => exact ⟨T, [], rfl, Lib.hid rfl, Lib.hid (by simp), HG, Lib.hid (World.ownsRow_nil _ _ _ _), HB1⟩
    case round =>
      obtain ⟨V, D, rfl, HD, HL, HMG, HH, HW⟩ := hrel
      cases V with
      | nil =>
        have HN := Lib.hid (next_end wr M w.heap.size E HMG.out)
        unfold CellR.value noCell at HN
        go_wp2_with fail
        refine (HN.out).mono ?_
        rintro e w2 ⟨rfl, hb2⟩
        have HB2 := Lib.hid hb2
        clear hb2
        go_wp2
        go_ret2
        refine .inr (.inr ⟨HB.out, HS.out, u6, rfl, ?_, ?_⟩)
        · have e1 : docA L = D := by unfold docA; rw [← Pl.dd_docAll CellR.ver verLt verLt_ord L HS.out T HTT.out, HD.out, Pl.dd_nil, List.append_nil]
          rw [e1]
          exact own_base_le (ownsRow_mod HH.out ((Mod.of_below HB2.out (Nat.le_refl _) : Mod (fun _ => False) wr w2).new _) (fun _ _ h => h)) HBE.out
        · exact (HW.out.trans (HB2.out.mono HW.out.size)).alloc (Nat.le_trans HW.out.size HB2.out.size) _
      | cons x U =>
        obtain ⟨c, i⟩ := x
        have HN := Lib.hid (next_ok wr M w.heap.size E c i U HMG.out)
        unfold CellR.value at HN
        go_wp2_with fail
        refine (HN.out).mono ?_
        rintro e w2 ⟨rfl, hg2, hm2⟩
        have HG2 := Lib.hid hg2
        have HM2 := Lib.hid hm2
        clear hg2 hm2
        have hlen : D.length + 1 ≤ 1000000 := by have h1 := HL.out; have h2 := HTL.out; have h3 := HT.out; simp only [List.length_cons] at h1; omega
        have HLE := Lib.hid hlen
        have hEw := HG2.out.2.2.1
        have HH2 := Lib.hid (ownsRow_mod HH.out HM2.out (fun k hk hs => by have := (HH.out.lt k hk).1; have := hs.2; omega))
        clear hlen
        go_wp2_with (at_builtin; refine wpList_append_own _ rfl (.tmp 25) (.tmp 27) 22 rfl E 42 i0 (.agg #[.string ⟨#[]⟩, .int .i64 0, .int .i64 0, .string ⟨#[]⟩]) 4 48 Try.underlying22 hi hz0 hz1 hz2 rfl (by decide) u6 D.length (flat CellR.cells D) rfl (ownsRow_mod HH2.out (((Mod.refl (fun _ => False) w2).new _).new _) (fun _ _ h => h)) ⟨w2.heap.size + 1, 0, none⟩ 1 1 c.cells rfl rfl ?b1 ?b2 ?b3 ?b4 ?b5 ?_)
        case b1 => exact news_cell _ _ c (by simp [go_sem]) (by simp [go_sem]) (by simp [go_sem]) (by simp [go_sem])
        case b2 => exact CellR.cells_one c
        case b3 => have := HLE.out; unfold maxLen; omega
        case b4 => have := HLE.out; omega
        case b5 => simp; omega
        intro va wa ha ga na
        obtain ⟨a8, c8, rfl⟩ := ownsRow_shape ha
        have hlt := HH2.out.lt
        have HHA := Lib.hid ha
        have hbE : Below E w2 wa := (((Below.refl E w2).alloc hEw _).alloc (by simp; omega) _).grown ga (by simp; omega) (fun k hk => (hlt k hk).1)
        have HBEW := Lib.hid hbE
        clear ha ga na hlt hbE
        go_wp2
        go_roundg ((Pl.past CellR.ver c.ver U).length + 1)
        case measure => have := Pl.past_len CellR.ver c.ver U; simp; omega
        case rel =>
          refine ⟨_, D ++ [c], rfl, Lib.hid ?_, Lib.hid ?_, Lib.hid (HG2.out.later HBEW.out), Lib.hid ?_, Lib.hid ?_⟩
          · rw [HD.out, Pl.dd_cons]; simp
          · have h1 := HL.out
            have h2 := Pl.past_len CellR.ver c.ver U
            simp only [List.length_append, List.length_cons, List.length_nil] at *
            omega
          · rw [flat_snoc, List.length_append]; exact HHA.out
          · exact (HW.out.trans (HM2.out.below (fun k hk => hk.1) HW.out.size)).trans (HBEW.out.mono HBE.out)
end Go.Proofs.Ytcgkpgjjifggcaa
