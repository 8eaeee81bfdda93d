/-
  Merge: contract of the law's blends.
-/
import Derived.Test.YtcgkpgjjifggcaaN21
namespace Go.Proofs.Ytcgkpgjjifggcaa
set_option linter.unusedVariables false
set_option linter.unusedSimpArgs false
open Go.RowKit Sl

theorem SlV.fresh {α : Type} {enc : α → List Value} (w : World) (arr : Array Value) (t : TypeId) (l : List α) (n : Nat) (S : Nat → Prop) (hS : ¬ S w.heap.size) (h : arr.toList = flat enc l) (hn : l.length = n) (hm : n ≤ maxLen) :
    SlV enc (w.alloc (.cells arr t)) S (.slice (some ⟨w.heap.size, 0, none⟩) n n) l := by
  subst hn
  refine ⟨_, l.length, rfl, Nat.le_refl _, hm, .inr ⟨w.heap.size, 0, rfl, hS, by simp, fun j u hj => ?_⟩⟩
  rw [← h] at hj
  have hr := World.rowIs_alloc w arr t (fun i => arr.getD i undef) (fun i hi => by simp [hi])
  have hj2 : j < arr.size := by have := (List.getElem?_eq_some_iff.1 hj).1; simpa using this
  rw [Nat.zero_add, hr.cell hj2]
  obtain ⟨_, rfl⟩ := List.getElem?_eq_some_iff.1 hj
  simp [hj2]

def bA : ByteArray := ⟨#[97]⟩
def b1 : CellR := ⟨⟨bA, 2, 1⟩, ⟨#[120]⟩⟩
def b2 : CellR := ⟨⟨bA, 1, 1⟩, ⟨#[]⟩⟩
def b3 : CellR := ⟨⟨bA, 2, 1⟩, ⟨#[121]⟩⟩
theorem verLt_same (k : ByteArray) (q r d f : Int) : verLt ⟨k, q, d⟩ ⟨k, r, f⟩ = (decide (r < q) || (decide (q = r) && decide (f < d))) := by simp [verLt, bl_irr]
theorem blend_srt : Sorted [[b1, b2], [b3]] := by
  intro l hl
  simp only [List.mem_cons, List.not_mem_nil, or_false] at hl
  rcases hl with rfl | rfl
  · refine List.pairwise_cons.2 ⟨fun x hx => ?_, List.pairwise_singleton _ _⟩
    simp only [List.mem_cons, List.not_mem_nil, or_false] at hx
    subst hx
    simp [b1, b2, verLt_same]
  · exact List.pairwise_singleton _ _
theorem blend_doc : docA [[b1, b2], [b3]] = [b1, b2] := by
  unfold docA
  show Pl.mrg CellR.ver verLt (Pl.mrg CellR.ver verLt [] [b1, b2]) [b3] = _
  rw [Pl.nil_mrg, Pl.mrg_ab CellR.ver verLt b1 b3 [b2] [] (by simp [b1, b3, verLt_same]) rfl, Pl.mrg_nil]

theorem blend_lv (w : World) : LV (((w.alloc (.cells #[.string ⟨#[97]⟩, .int .i64 2, .int .i64 1, .string ⟨#[120]⟩, .string ⟨#[97]⟩, .int .i64 1, .int .i64 1, .string ⟨#[]⟩] 42)).alloc (.cells #[.string ⟨#[97]⟩, .int .i64 2, .int .i64 1, .string ⟨#[121]⟩] 42)).alloc
      (.cells #[.slice (some ⟨w.heap.size, 0, none⟩) 2 2, .slice (some ⟨w.heap.size + 1, 0, none⟩) 1 1] 22)) (fun _ => False) (.slice (some ⟨w.heap.size + 2, 0, none⟩) 2 2) [[b1, b2], [b3]] := by
  have h1 : CV (w.alloc (.cells #[.string ⟨#[97]⟩, .int .i64 2, .int .i64 1, .string ⟨#[120]⟩, .string ⟨#[97]⟩, .int .i64 1, .int .i64 1, .string ⟨#[]⟩] 42)) (fun _ => False) (.slice (some ⟨w.heap.size, 0, none⟩) 2 2) [b1, b2] :=
    SlV.fresh w _ 42 [b1, b2] 2 _ (fun h => h) rfl rfl (by unfold maxLen; omega)
  have h2 := SlV.fresh (enc := CellR.cells) (w.alloc (.cells #[.string ⟨#[97]⟩, .int .i64 2, .int .i64 1, .string ⟨#[120]⟩, .string ⟨#[97]⟩, .int .i64 1, .int .i64 1, .string ⟨#[]⟩] 42)) #[.string ⟨#[97]⟩, .int .i64 2, .int .i64 1, .string ⟨#[121]⟩] 42 [b3] 1 (fun _ => False) (fun h => h) rfl rfl (by unfold maxLen; omega)
  have h3 := SlV.fresh (enc := one) ((w.alloc (.cells #[.string ⟨#[97]⟩, .int .i64 2, .int .i64 1, .string ⟨#[120]⟩, .string ⟨#[97]⟩, .int .i64 1, .int .i64 1, .string ⟨#[]⟩] 42)).alloc (.cells #[.string ⟨#[97]⟩, .int .i64 2, .int .i64 1, .string ⟨#[121]⟩] 42)) #[.slice (some ⟨w.heap.size, 0, none⟩) 2 2, .slice (some ⟨w.heap.size + 1, 0, none⟩) 1 1] 22
    [.slice (some ⟨w.heap.size, 0, none⟩) 2 2, .slice (some ⟨w.heap.size + 1, 0, none⟩) 1 1] 2 (fun _ => False) (fun h => h) rfl rfl (by unfold maxLen; omega)
  have e2 : (w.alloc (.cells #[.string ⟨#[97]⟩, .int .i64 2, .int .i64 1, .string ⟨#[120]⟩, .string ⟨#[97]⟩, .int .i64 1, .int .i64 1, .string ⟨#[]⟩] 42)).heap.size = w.heap.size + 1 := by simp
  have e3 : ((w.alloc (.cells #[.string ⟨#[97]⟩, .int .i64 2, .int .i64 1, .string ⟨#[120]⟩, .string ⟨#[97]⟩, .int .i64 1, .int .i64 1, .string ⟨#[]⟩] 42)).alloc (.cells #[.string ⟨#[97]⟩, .int .i64 2, .int .i64 1, .string ⟨#[121]⟩] 42)).heap.size = w.heap.size + 2 := by simp
  rw [e2] at h2
  rw [e3] at h3
  refine ⟨_, rfl, h3, fun k x l a b => ?_⟩
  match k, a, b with
  | 0, a, b =>
    cases a; cases b
    exact (h1.below ((Below.refl _ _).alloc (Nat.le_refl _) _)).below ((Below.refl _ _).alloc (Nat.le_refl _) _)
  | 1, a, b =>
    cases a; cases b
    exact h2.below ((Below.refl _ _).alloc (Nat.le_refl _) _)

set_option maxHeartbeats 1600000 in
theorem blends_ok (w : World) : Calls Try.prog 9 #[] w fun e w' => e = .returned (.bool true) ∧ Below w.heap.size w w' := by
  have HAL := Lib.hid (all_ok _ _ _ _ (blend_lv w) (by decide) (by decide))
  go_enter Try.func9, Try.ntmps9
  go_wp2_with fail
  refine (HAL.out).mono ?_
  rintro e w1 (⟨h, _, _⟩ | ⟨_, h, _, _⟩ | ⟨_, _, v', rfl, hh, hb⟩)
  · simp at h
  · exact absurd blend_srt h
  · rw [blend_doc] at hh
    obtain ⟨a3, c3, rfl, hle⟩ := hh.shape
    obtain ⟨bb, o, hao, -, hbl, hcs⟩ := CV.of (SlV.of_has hh) (by decide)
    obtain ⟨-, -, -, x4⟩ := hcs 0 b1 rfl
    obtain ⟨-, y2, -, -⟩ := hcs 1 b2 rfl
    subst hao
    have HB := Lib.hid hb
    simp only [b1, b2, Nat.zero_mul, Nat.one_mul, Nat.add_zero] at x4 y2
    have e1 : [b1, b2].length = 2 := rfl
    have hm := (SlV.len (SlV.of_has hh)).2.2
    unfold maxLen at hm
    rw [e1] at hle ⊢
    clear hh hcs hb e1 HAL
    go_wp2
    go_ret
    refine ⟨rfl, ?_⟩
    exact ((((Below.refl _ _).alloc (Nat.le_refl _) _).alloc (by simp) _).alloc (by simp; omega) _).trans (HB.out.mono (by simp; omega))
end Go.Proofs.Ytcgkpgjjifggcaa
