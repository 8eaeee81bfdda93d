/-
  Regions that draw their order, whose calls make memory and turn nothing: one walk serves every order.
-/
import Derived.WalkKit
import Derived.WalkSpells
import Derived.WalkLawsBesides
import Derived.RowKit3
import Derived.Lib.Hide
import Derived.Deep.QuietTactic
import Derived.BigQuiet
namespace Go.Proofs.Ytcgkpgjjifggcaa.Qu
set_option linter.unusedVariables false
open Go.RowKit

open Classical in
/-- X, where all of W lies unturned in it; else W. -/
noncomputable def plus (W X : World) : World := if Below W.heap.size W X then X else W
theorem plus_self {W X : World} (h : Below W.heap.size W X) : plus W X = X := by unfold plus; rw [if_pos h]
theorem plus_below (W X : World) : Below W.heap.size W (plus W X) := by
  unfold plus
  split
  · assumption
  · exact Below.refl _ _
theorem plus_cell {W X : World} {b o : Nat} (h : b < W.heap.size) : (plus W X).cell? ⟨b, o, none⟩ = W.cell? ⟨b, o, none⟩ := (plus_below W X).cell (p := ⟨b, o, none⟩) h
theorem plus_frozen {W X : World} {b o : Nat} (h : b < W.heap.size) : (plus W X).frozen? ⟨b, o, none⟩ = W.frozen? ⟨b, o, none⟩ := (plus_below W X).frozen (p := ⟨b, o, none⟩) h
theorem plus_drew (W : World) : ∃ X, { W with drawn := W.drawn + 1 } = plus W X := ⟨_, (plus_self (W := W) (X := { W with drawn := W.drawn + 1 }) ⟨rfl, rfl, rfl, Nat.le_refl _, fun _ _ => rfl⟩).symm⟩
theorem plus_call {P : Program} {f : FuncId} {args : Array Value} {W X : World} {v : Value} (h : Calls P f args (plus W X) fun e w' => e = .returned v ∧ Below (plus W X).heap.size (plus W X) w') :
    Calls P f args (plus W X) fun e w' => e = .returned v ∧ ∃ Y, w' = plus W Y :=
  h.mono fun e w' ⟨h1, h2⟩ => ⟨h1, w', (plus_self ((plus_below W X).trans (h2.mono (plus_below W X).size))).symm⟩
theorem wp_region_plus {P : Program} {id : Nat} {Q : Exit → Act → World → Prop} {a : Act} {w : World} {l : List Oper} (hm : P.follows .mixedOrders = true) (hB : Region.lexB .any l.toArray = true)
    (h : wpQuiet P l.toArray (fun w' => ∃ X, w' = plus w X) (fun a' => ∀ w', (∃ X, w' = plus w X) → Q .normal a' w') l a) : (Code.region id l.toArray true).wp P Q a w :=
  wp_region_quiet (C := fun w' => ∃ X, w' = plus w X) hm hB (plus_drew w) (by simpa using h)
end Go.Proofs.Ytcgkpgjjifggcaa.Qu
