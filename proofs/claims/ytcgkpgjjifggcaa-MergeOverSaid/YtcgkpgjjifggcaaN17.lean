/-
  Merge: contract of the document's Cells at equal lists.
-/
import Derived.Test.YtcgkpgjjifggcaaN16
namespace Go.Proofs.Ytcgkpgjjifggcaa
set_option linter.unusedVariables false
set_option linter.unusedSimpArgs false
open Go.RowKit Sl

theorem run_cellNe (c : CellR) (w : World) : (binOp .neq 42 c.value c.value).run Try.prog w = .ok (.bool false) w := by
  obtain ⟨⟨a, q, d⟩, x⟩ := c
  unfold CellR.value
  go_simp

set_option maxHeartbeats 1600000 in
theorem cells_eq (v v' : Value) (l : List CellR) (S S' : Nat → Prop) (w : World) (h : CV w S v l) (h' : CV w S' v' l) :
    Calls Try.prog 12 #[v, v'] w fun e w' => e = .returned (.bool true) ∧ ∃ n, w' = w.drewN n := by
  obtain ⟨ao, cap, hv⟩ := h.shape
  obtain ⟨ao', cap', hv'⟩ := h'.shape
  obtain ⟨n, hn⟩ : ∃ n, l.length = n := ⟨_, rfl⟩
  rw [hn] at hv hv'
  subst hv hv'
  have HV := Lib.hid h
  have HV' := Lib.hid h'
  have HN := Lib.hid hn
  obtain ⟨-, h2, h3⟩ := SlV.len h
  obtain ⟨-, h2', h3'⟩ := SlV.len h'
  unfold maxLen at h3 h3'
  have e0 : ((n : Int) != n) = false := by simp
  clear h h' hn
  go_enter Try.func12, Try.ntmps12
  go_wp2
  go_loopw [5] (fun i wr => ∃ (k d : Nat), i = .int .i64 k ∧ k ≤ n ∧ wr = w.drewN d)
    (fun i _ => n - (intOf i).toNat)
  case atStart => exact ⟨0, 0, rfl, Nat.zero_le _, rfl⟩
  case round =>
    obtain ⟨k, d, rfl, hk, rfl⟩ := hrel
    by_cases hlt : k < n
    · have hlt2 : (k : Int) < n := by omega
      have a1 : (0 : Int) ≤ (k : Int) := by omega
      obtain ⟨bb, o, rfl, hS, hbl, hcs⟩ := CV.of HV.out (by omega)
      obtain ⟨bb', o', rfl, hS', hbl', hcs'⟩ := CV.of HV'.out (by omega)
      obtain ⟨c, hc⟩ := get_of (l := l) (k := k) (by have := HN.out; omega)
      obtain ⟨x1, x2, x3, x4⟩ := hcs k c hc
      obtain ⟨y1, y2, y3, y4⟩ := hcs' k c hc
      have hne := run_cellNe c
      unfold CellR.value at hne
      clear hcs hcs' hc hS hS'
      go_wp2_with fail
      go_quiet (fail)
      go_wp2
      go_roundw
      case rel => exact ⟨k + 1, _, by go_num, by omega, rfl⟩
      case measure => simp [intOf]; omega
    · have hge : decide ((k : Int) < n) = false := by simp; omega
      go_wp2
      go_ret
      exact ⟨rfl, d, rfl⟩
/-- A slice cut. -/
theorem SlV.cutLo {α : Type} {enc : α → List Value} {size : Nat} (he : ∀ a, (enc a).length = size) {w : World} {S : Nat → Prop} {ao : Option Addr} {n cap : Nat} {l : List α} (h : SlV enc w S (.slice ao n cap) l) (k : Nat) (hk : k ≤ n) :
    SlV enc w S (.slice (if cap = k then ao else ao.map (·.add (k * size))) (n - k) (cap - k)) (l.drop k) := by
  obtain ⟨hl, hn, hm⟩ := SlV.len h
  by_cases hkn : k = n
  · refine ⟨_, cap - k, by rw [List.length_drop, hl], by rw [List.length_drop, hl]; omega, by omega, .inl (List.drop_eq_nil_of_le (by omega))⟩
  · rw [if_neg (by omega)]
    obtain ⟨b, o, cap', h1, -, -, -, -, -⟩ := SlV.at he h (fun e => by rw [e] at hl; simp at hl; omega)
    simp only [Value.slice.injEq] at h1
    obtain ⟨rfl, -, -⟩ := h1
    have hp : (⟨b, o, Option.none⟩ : Addr).add (k * size) = ⟨b, o + k * size, Option.none⟩ := by unfold Addr.add; split <;> simp_all
    rw [Option.map_some, hp]
    rw [← hl] at h
    have := SlV.sub (n := 0) he h k l.length (by omega) (Nat.le_refl _) (cap - k) (by omega) (by omega)
    rw [List.take_length] at this
    rw [hl] at this
    exact this
theorem SlV.cutHi {α : Type} {enc : α → List Value} {size : Nat} (he : ∀ a, (enc a).length = size) {w : World} {S : Nat → Prop} {ao : Option Addr} {n cap : Nat} {l : List α} (h : SlV enc w S (.slice ao n cap) l) (k : Nat) (hk : k ≤ n) (ao' : Option Addr) (hao : ao' = ao) :
    SlV enc w S (.slice ao' k cap) (l.take k) := by
  subst hao
  obtain ⟨hl, hn, hm⟩ := SlV.len h
  by_cases hkn : n = 0
  · exact ⟨_, cap, by rw [List.length_take, hl, Nat.min_eq_left hk], by rw [List.length_take, hl]; omega, hm, .inl (by have : l = [] := List.length_eq_zero_iff.1 (by omega); rw [this]; simp)⟩
  · obtain ⟨b, o, cap', h1, -, -, -, -, -⟩ := SlV.at he h (fun e => by rw [e] at hl; simp at hl; omega)
    simp only [Value.slice.injEq] at h1
    obtain ⟨rfl, -, -⟩ := h1
    rw [← hl] at h
    have := SlV.sub (n := 0) he h 0 k (Nat.zero_le _) (by omega) cap (by omega) hm
    simpa using this
theorem bel_a1 (w0 : World) (A : Obj) : Below w0.heap.size w0 (w0.alloc A).drew := ((Below.refl _ _).alloc (Nat.le_refl _) A).drew
theorem bel_a2 (w0 : World) (A B : Obj) : Below w0.heap.size w0 ((w0.alloc A).alloc B).drew := (((Below.refl _ _).alloc (Nat.le_refl _) A).alloc (by simp) B).drew
end Go.Proofs.Ytcgkpgjjifggcaa
