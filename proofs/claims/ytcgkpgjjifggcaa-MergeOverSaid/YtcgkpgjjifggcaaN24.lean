/-
  Merge: the law MergeGroups walked.
-/
import Derived.Test.YtcgkpgjjifggcaaN23
namespace Go.Proofs.Ytcgkpgjjifggcaa
set_option linter.unusedVariables false
set_option linter.unusedSimpArgs false
open Go.RowKit Sl

theorem LV.cutHi {w : World} {S : Nat → Prop} {ao : Option Addr} {n cap : Nat} {L : List (List CellR)} (h : LV w S (.slice ao n cap) L) (k : Nat) (hk : k ≤ n) : LV w S (.slice ao k cap) (L.take k) := by
  obtain ⟨vs, h1, h2, h3⟩ := h
  exact ⟨vs.take k, by simp [h1], SlV.cutHi (size := 1) (fun _ => rfl) h2 k hk ao rfl, fun j x l a b => h3 j x l (by rw [List.getElem?_take] at a; split at a; exact a; cases a) (by rw [List.getElem?_take] at b; split at b; exact b; cases b)⟩
theorem LV.cutLo {w : World} {S : Nat → Prop} {ao : Option Addr} {n cap : Nat} {L : List (List CellR)} (h : LV w S (.slice ao n cap) L) (k : Nat) (hk : k ≤ n) : LV w S (.slice (if cap = k then ao else ao.map (·.add (k * 1))) (n - k) (cap - k)) (L.drop k) := by
  obtain ⟨vs, h1, h2, h3⟩ := h
  exact ⟨vs.drop k, by simp [h1], SlV.cutLo (size := 1) (fun _ => rfl) h2 k hk, fun j x l a b => h3 (k + j) x l (by rw [List.getElem?_drop] at a; exact a) (by rw [List.getElem?_drop] at b; exact b)⟩
theorem LV.pack (w : World) (arr : Array Value) (L : List (List CellR)) (n : Nat) (S : Nat → Prop) (hS : ¬ S w.heap.size) (hn : arr.toList.length = n) (hL : L.length = n) (hm : n ≤ maxLen) (h : ∀ (k : Nat) (x : Value) (l : List CellR), arr.toList[k]? = some x → L[k]? = some l → CV w S x l) :
    LV (w.alloc (.cells arr 22)) S (.slice (some ⟨w.heap.size, 0, none⟩) n n) L :=
  ⟨arr.toList, by rw [hn, hL], SlV.fresh (enc := one) w arr 22 arr.toList n S hS (flat_id _).symm hn hm, fun k x l a b => (h k x l a b).below ((Below.refl _ _).alloc (Nat.le_refl _) _)⟩
theorem LV.mono {w : World} {S T : Nat → Prop} {v : Value} {L : List (List CellR)} (h : LV w S v L) (hT : ∀ k, T k → S k) : LV w T v L := by
  obtain ⟨vs, h1, h2, h3⟩ := h
  exact ⟨vs, h1, h2.mono hT, fun k x l a b => (h3 k x l a b).mono hT⟩
theorem all_sorted (v : Value) (L : List (List CellR)) (S : Nat → Prop) (w : World) (h : LV w S v L) (hs : Sorted L) (hb : L.length ≤ 1000) (hbig : total L ≤ 1000000) :
    Calls Try.prog 11 #[v] w fun e w' => ∃ a c, e = .returned (.tuple #[.slice a (docA L).length c, .int .i64 0]) ∧ CV w' (fun _ => False) (.slice a (docA L).length c) (docA L) ∧ Below w.heap.size w w' := by
  refine (all_ok v L S w h hb hbig).mono ?_
  rintro e w' (⟨h1, _, _⟩ | ⟨_, h1, _, _⟩ | ⟨_, _, v', rfl, hh, hbb⟩)
  · omega
  · exact absurd hs h1
  · obtain ⟨a, c, rfl, -⟩ := hh.shape
    exact ⟨a, c, rfl, (SlV.of_has hh).mono (fun _ h => h.elim), hbb⟩
theorem total_le (L : List (List CellR)) (m : Nat) (h : ∀ l ∈ L, l.length ≤ m) : total L ≤ L.length * m := by
  induction L with
  | nil => simp [total]
  | cons l L ih =>
    have h1 := h l (by simp)
    have h2 := ih (fun x hx => h x (by simp [hx]))
    unfold total at *
    simp only [List.map_cons, List.sum_cons, List.length_cons, Nat.add_mul]
    omega
theorem docA_total (L : List (List CellR)) : (docA L).length ≤ total L := by
  have := docA_len L L.length
  rwa [List.take_length] at this
theorem docA_srt (L : List (List CellR)) (h : Sorted L) : Pl.Srt CellR.ver verLt (docA L) := (Pl.docAll_spec CellR.ver verLt verLt_ord _ L rfl h).1
theorem sorted_take {L : List (List CellR)} (h : Sorted L) (k : Nat) : Sorted (L.take k) := fun l hl => h l (List.mem_of_mem_take hl)
theorem sorted_drop {L : List (List CellR)} (h : Sorted L) (k : Nat) : Sorted (L.drop k) := fun l hl => h l (List.mem_of_mem_drop hl)
theorem docA_groups (L : List (List CellR)) (h : Sorted L) (k : Nat) : docA [docA (L.take k), docA (L.drop k)] = docA L := by
  have := Pl.docAll_groups CellR.ver verLt verLt_ord (L.take k) (L.drop k) (sorted_take h k) (sorted_drop h k)
  rw [List.take_append_drop] at this
  exact this
theorem docA_twice (D : List CellR) : docA [D, [], D] = D := Pl.docAll_twice CellR.ver verLt verLt_ord D

def AllK (D : List CellR) (m : Nat) (W : World) (e : Ending) (w' : World) : Prop := ∃ a c, e = .returned (.tuple #[.slice a m c, .int .i64 0]) ∧ CV w' (fun _ => False) (.slice a m c) D ∧ Below W.heap.size W w'
theorem allK (v : Value) (L : List (List CellR)) (S : Nat → Prop) (w : World) (h : LV w S v L) (hs : Sorted L) (hb : L.length ≤ 1000) (hbig : total L ≤ 1000000) (D : List CellR) (m : Nat) (hD : docA L = D) (hm : D.length = m) :
    Calls Try.prog 11 #[v] w (AllK D m w) := by
  subst hD hm
  exact all_sorted v L S w h hs hb hbig
theorem AllK.from {D : List CellR} {m : Nat} {W w : World} {e : Ending} {w' : World} (h : AllK D m w e w') (hW : Below W.heap.size W w) : AllK D m W e w' := by
  obtain ⟨a, c, h1, h2, h3⟩ := h
  exact ⟨a, c, h1, h2, hW.trans (h3.mono hW.size)⟩
theorem sorted2 {D E : List CellR} (h1 : Pl.Srt CellR.ver verLt D) (h2 : Pl.Srt CellR.ver verLt E) : Sorted [D, E] := fun l hl => by
  rcases List.mem_cons.1 hl with rfl | hl
  · exact h1
  · rcases List.mem_cons.1 hl with rfl | hl
    · exact h2
    · simp at hl
theorem sorted3 {D E F : List CellR} (h1 : Pl.Srt CellR.ver verLt D) (h2 : Pl.Srt CellR.ver verLt E) (h3 : Pl.Srt CellR.ver verLt F) : Sorted [D, E, F] := fun l hl => by
  rcases List.mem_cons.1 hl with rfl | hl
  · exact h1
  · exact sorted2 h2 h3 l hl
structure GroupsK (w2 : World) (g ck : Nat) (D1 D2 D : List CellR) (m1 m2 m : Nat) : Prop where
  A1 : ∀ W, Below w2.heap.size w2 W → Calls Try.prog 11 #[.slice (some ⟨g, 0, none⟩) ck 6] W (AllK D1 m1 W)
  A2 : ∀ W v', Below w2.heap.size w2 W → ((v' = .slice (some ⟨g, 0, none⟩) 0 0 ∧ 6 = ck) ∨ (v' = .slice (some ⟨g, ck, none⟩) (6 - ck) (6 - ck) ∧ ¬ 6 = ck)) → Calls Try.prog 11 #[v'] W (AllK D2 m2 W)
  A3 : ∀ W a1 c1 a2 c2, CV W (fun _ => False) (.slice a1 m1 c1) D1 → CV W (fun _ => False) (.slice a2 m2 c2) D2 → Calls Try.prog 11 #[.slice (some ⟨W.heap.size, 0, none⟩) 2 2] (W.alloc (.cells #[.slice a1 m1 c1, .slice a2 m2 c2] 22)) (AllK D m W)
  A4 : ∀ W v', Below w2.heap.size w2 W → (v' = .slice (some ⟨g, 0, none⟩) 6 6 ∨ (v' = .slice (some ⟨g, 0, none⟩) ck ck ∧ 6 = ck)) → Calls Try.prog 11 #[v'] W (AllK D m W)
  A5 : ∀ W a c, CV W (fun _ => False) (.slice a m c) D → Calls Try.prog 11 #[.slice (some ⟨W.heap.size, 0, none⟩) 3 3] (W.alloc (.cells #[.slice a m c, .slice none 0 0, .slice a m c] 22)) (AllK D m W)
  A6 : ∀ W a c a' c', CV W (fun _ => False) (.slice a m c) D → CV W (fun _ => False) (.slice a' m c') D → Calls Try.prog 12 #[.slice a m c, .slice a' m c'] W fun e w' => e = .returned (.bool true) ∧ Below W.heap.size W w'
theorem cells_bel (v v' : Value) (l : List CellR) (S S' : Nat → Prop) (w : World) (h : CV w S v l) (h' : CV w S' v' l) : Calls Try.prog 12 #[v, v'] w fun e w' => e = .returned (.bool true) ∧ Below w.heap.size w w' :=
  (cells_eq v v' l S S' w h h').mono (by
    rintro e w' ⟨rfl, n, rfl⟩
    exact ⟨rfl, below_dn (Below.refl _ _) n⟩)
theorem groups_parts (w2 : World) (g ck : Nat) (L : List (List CellR)) (hL6 : L.length = 6) (hs : Sorted L) (h60 : ∀ l ∈ L, l.length ≤ 60) (hlv : LV w2 (fun _ => False) (.slice (some ⟨g, 0, none⟩) 6 6) L) (hck : ck ≤ 6) :
    ∃ D1 D2 D m1 m2 m, GroupsK w2 g ck D1 D2 D m1 m2 m := by
  have hto : total L ≤ 360 := by have := total_le L 60 h60; rw [hL6] at this; omega
  have htk : total (L.take ck) ≤ 360 ∧ total (L.drop ck) ≤ 360 := by
    have h := hto
    unfold total at *
    rw [← List.take_append_drop ck L, List.map_append, List.sum_append] at h
    omega
  have hl1 := Nat.le_trans (docA_total (L.take ck)) htk.1
  have hl2 := Nat.le_trans (docA_total (L.drop ck)) htk.2
  have hl := Nat.le_trans (docA_total L) hto
  refine ⟨docA (L.take ck), docA (L.drop ck), docA L, (docA (L.take ck)).length, (docA (L.drop ck)).length, (docA L).length, ⟨fun W hW => ?_, fun W v' hW hv => ?_, fun W a1 c1 a2 c2 h1 h2 => ?_, fun W v' hW hv => ?_, fun W a c h => ?_, fun W a c a' c' h h' => cells_bel _ _ _ _ _ _ h h'⟩⟩
  · exact allK _ (L.take ck) _ W ((hlv.below hW).cutHi ck hck) (sorted_take hs ck) (by rw [List.length_take, hL6]; omega) (by omega) _ _ rfl rfl
  · have hd := (hlv.below hW).cutLo ck hck
    refine allK v' (L.drop ck) (fun _ => False) W ?_ (sorted_drop hs ck) (by rw [List.length_drop, hL6]; omega) (by omega) _ _ rfl rfl
    rcases hv with ⟨rfl, h6⟩ | ⟨rfl, h6⟩
    · rw [if_pos h6, ← h6] at hd
      rw [← h6]
      exact hd
    · rw [if_neg h6] at hd
      have hp : (⟨g, 0, Option.none⟩ : Addr).add (ck * 1) = ⟨g, ck, Option.none⟩ := by rw [Addr.add_lit, Nat.mul_one, Nat.zero_add]
      rw [Option.map_some, hp] at hd
      exact hd
  · have hp := LV.pack W #[.slice a1 (docA (L.take ck)).length c1, .slice a2 (docA (L.drop ck)).length c2] [docA (L.take ck), docA (L.drop ck)] 2 (fun _ => False) (fun h => h) rfl rfl (by decide) (fun k x l hx hl => by
      match k, hx, hl with
      | 0, hx, hl => cases hx; cases hl; exact h1
      | 1, hx, hl => cases hx; cases hl; exact h2)
    refine (allK _ _ _ _ hp (sorted2 (docA_srt _ (sorted_take hs ck)) (docA_srt _ (sorted_drop hs ck))) (by simp) ?_ (docA L) _ (docA_groups L hs ck) rfl).mono (fun e w' h => h.from ((Below.refl _ _).alloc (Nat.le_refl _) _))
    show (docA (L.take ck)).length + ((docA (L.drop ck)).length + 0) ≤ 1000000
    omega
  · have e : v' = .slice (some ⟨g, 0, none⟩) 6 6 := by
      rcases hv with h | ⟨h, h6⟩
      · exact h
      · rw [h, ← h6]
    rw [e]
    exact allK _ L _ W (hlv.below hW) hs (by omega) (by omega) _ _ rfl rfl
  · have hp := LV.pack W #[.slice a (docA L).length c, .slice none 0 0, .slice a (docA L).length c] [docA L, [], docA L] 3 (fun _ => False) (fun h => h) rfl rfl (by decide) (fun k x l hx hl => by
      match k, hx, hl with
      | 0, hx, hl => cases hx; cases hl; exact h
      | 1, hx, hl => cases hx; cases hl; exact ⟨none, 0, rfl, Nat.le_refl _, Nat.zero_le _, .inl rfl⟩
      | 2, hx, hl => cases hx; cases hl; exact h)
    refine (allK _ _ _ _ hp (sorted3 (docA_srt _ hs) List.Pairwise.nil (docA_srt _ hs)) (by simp) ?_ (docA L) _ (docA_twice _) rfl).mono (fun e w' h => h.from ((Below.refl _ _).alloc (Nat.le_refl _) _))
    show (docA L).length + (0 + ((docA L).length + 0)) ≤ 1000000
    omega

end Go.Proofs.Ytcgkpgjjifggcaa
