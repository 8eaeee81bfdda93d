/-
  Conv: contracts of the references' small functions (Width, Split, Whole, Told).
-/
import Derived.Test.YtdoaepopkdeonaaRows
import Derived.WalkKit
import Derived.WalkSpells
import Derived.WalkLawsBesides
import Derived.RowKit3
import Derived.Lib.Hide
namespace Go.Proofs.Ytdoaepopkdeonaa
open Go.RowKit

def widthOf (kind : Int) : Int := if kind < 0 ∨ 7 < kind then 0 else if kind % 4 = 0 then 8 else if kind % 4 = 1 then 16 else if kind % 4 = 2 then 32 else 64

set_option maxHeartbeats 400000 in
theorem width_no (kind : Int) (h : kind < 0 ∨ 7 < kind) (w : World) :
    Calls Try.prog 36 #[.int .i64 kind] w fun e w' => e = .returned (.int .i64 0) ∧ w = w' := by
  rcases h with h | h
  · go_enter Try.func36, Try.ntmps36
    go_wp2
    go_ret
    exact ⟨rfl, rfl⟩
  · have h' : ¬ kind < 0 := by omega
    go_enter Try.func36, Try.ntmps36
    go_wp2
    go_ret
    exact ⟨rfl, rfl⟩

set_option maxHeartbeats 400000 in
theorem width_yes (kind : Int) (h0 : 0 ≤ kind) (h7 : kind ≤ 7) (w : World) :
    Calls Try.prog 36 #[.int .i64 kind] w fun e w' => e = .returned (.int .i64 (widthOf kind)) ∧ w' = w.alloc (.cells #[.int .i64 8, .int .i64 16, .int .i64 32, .int .i64 64] 3) := by
  have hc : kind = 0 ∨ kind = 1 ∨ kind = 2 ∨ kind = 3 ∨ kind = 4 ∨ kind = 5 ∨ kind = 6 ∨ kind = 7 := by omega
  rcases hc with rfl | rfl | rfl | rfl | rfl | rfl | rfl | rfl <;>
  · go_enter Try.func36, Try.ntmps36
    go_wp2
    go_ret
    exact ⟨rfl, rfl⟩
end Go.Proofs.Ytdoaepopkdeonaa
