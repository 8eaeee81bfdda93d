/-
  No cell of these rows narrows 'for every input' (looked for: loops, veiled, ifaces, maps, wideKeys, modest, calm, conditions, laid).
  DERIVED. THE GIVEN ROWS OF THIS SEAT. 9 by the template 'for every input the law returns true; each argument reads behind the call as it read before'; 0 by the template 'total and deterministic' (their statements: YtdoaepopkdeonaaTotals.lean).
  GIVEN WITH THE SEED: the statements are not yours to turn. If you find one false, say at which input.
  Laid BY PROGRAM, IN A SANDBOX (cutbox-rows.mjs): the forced cells as the released guide's own fill.sh prints them over the translation 2177c9ff5107b737… (all of the seat's roots in one cut). By AI agents, Wed Nov 11 2026. No macro, syntax, notation, axiom, sorry.
-/
import Derived.Test.YtdoaepopkdeonaaChecked
import GoSem.Claim
import GoSem.ClaimJoined
import GoSem.ClaimMapViews
import Derived.JoinedTies
import Derived.KernelRfl
namespace Go.Proofs.Ytdoaepopkdeonaa
/- THE CELL 'sum', in the pinned program and in every row, IS THE sha256 OF THE DUMP (.gsa) THAT YtdoaepopkdeonaaProg.lean LOADS. Nothing in Lean hashes anything: it is a label: what it is worth is what the hold of that sum in a sandbox is worth. -/
noncomputable def Try.pinned : Pinned := { name := "ytdoaepopkdeonaa", sum := "2177c9ff5107b7372d88c064964f9c84d8490a5964f75b7f79476747082e4e18", checked := Try.checked }
namespace Rows
def none {H : Type} : Left H := { results := [], args := [] }

/-- 'assartlaw02.ConvMoves': WHATEVER THE INPUT: true; the input reads as it did. -/
def convMovesSpec : ChangeSpec := { name := "convMoves", fn := fun _ => fun
  | [d1, d2, d3] => { results := [.lit (.bool true)], args := [d1, d2, d3] }
  | _ => none }
def convMovesRow : OpenClaim := { program := "ytdoaepopkdeonaa", sum := "2177c9ff5107b7372d88c064964f9c84d8490a5964f75b7f79476747082e4e18", func := "assart/assartlaw02.ConvMoves", spec := "convMoves", apart := false }
def ConvMovesSaid : Prop := convMovesRow.holds Try.pinned (OpenSpec.ofChange convMovesSpec)

/-- ITS FALSE NEIGHBOUR: 'it returns false'. Refute it at one input. -/
def convMovesWrong : ChangeSpec := { name := "convMoves", fn := fun _ => fun
  | [d1, d2, d3] => { results := [.lit (.bool false)], args := [d1, d2, d3] }
  | _ => none }
def ConvMovesWrongFalsely : Prop := convMovesRow.holds Try.pinned (OpenSpec.ofChange convMovesWrong)

/-- 'assartlaw02.ConvDoubles': WHATEVER THE INPUT: true; the input reads as it did. -/
def convDoublesSpec : ChangeSpec := { name := "convDoubles", fn := fun _ => fun
  | [d1, d2, d3] => { results := [.lit (.bool true)], args := [d1, d2, d3] }
  | _ => none }
def convDoublesRow : OpenClaim := { program := "ytdoaepopkdeonaa", sum := "2177c9ff5107b7372d88c064964f9c84d8490a5964f75b7f79476747082e4e18", func := "assart/assartlaw02.ConvDoubles", spec := "convDoubles", apart := false }
def ConvDoublesSaid : Prop := convDoublesRow.holds Try.pinned (OpenSpec.ofChange convDoublesSpec)

/-- ITS FALSE NEIGHBOUR: 'it returns false'. Refute it at one input. -/
def convDoublesWrong : ChangeSpec := { name := "convDoubles", fn := fun _ => fun
  | [d1, d2, d3] => { results := [.lit (.bool false)], args := [d1, d2, d3] }
  | _ => none }
def ConvDoublesWrongFalsely : Prop := convDoublesRow.holds Try.pinned (OpenSpec.ofChange convDoublesWrong)

/-- 'assartlaw02.ConvFields': WHATEVER THE INPUT: true; the input reads as it did. -/
def convFieldsSpec : ChangeSpec := { name := "convFields", fn := fun _ => fun
  | [d1, d2, d3] => { results := [.lit (.bool true)], args := [d1, d2, d3] }
  | _ => none }
def convFieldsRow : OpenClaim := { program := "ytdoaepopkdeonaa", sum := "2177c9ff5107b7372d88c064964f9c84d8490a5964f75b7f79476747082e4e18", func := "assart/assartlaw02.ConvFields", spec := "convFields", apart := false }
def ConvFieldsSaid : Prop := convFieldsRow.holds Try.pinned (OpenSpec.ofChange convFieldsSpec)

/-- ITS FALSE NEIGHBOUR: 'it returns false'. Refute it at one input. -/
def convFieldsWrong : ChangeSpec := { name := "convFields", fn := fun _ => fun
  | [d1, d2, d3] => { results := [.lit (.bool false)], args := [d1, d2, d3] }
  | _ => none }
def ConvFieldsWrongFalsely : Prop := convFieldsRow.holds Try.pinned (OpenSpec.ofChange convFieldsWrong)

/-- 'assartlaw02.ConvPieces': WHATEVER THE INPUT: true; the input reads as it did. -/
def convPiecesSpec : ChangeSpec := { name := "convPieces", fn := fun _ => fun
  | [d1, d2, d3] => { results := [.lit (.bool true)], args := [d1, d2, d3] }
  | _ => none }
def convPiecesRow : OpenClaim := { program := "ytdoaepopkdeonaa", sum := "2177c9ff5107b7372d88c064964f9c84d8490a5964f75b7f79476747082e4e18", func := "assart/assartlaw02.ConvPieces", spec := "convPieces", apart := false }
def ConvPiecesSaid : Prop := convPiecesRow.holds Try.pinned (OpenSpec.ofChange convPiecesSpec)

/-- ITS FALSE NEIGHBOUR: 'it returns false'. Refute it at one input. -/
def convPiecesWrong : ChangeSpec := { name := "convPieces", fn := fun _ => fun
  | [d1, d2, d3] => { results := [.lit (.bool false)], args := [d1, d2, d3] }
  | _ => none }
def ConvPiecesWrongFalsely : Prop := convPiecesRow.holds Try.pinned (OpenSpec.ofChange convPiecesWrong)

/-- 'assarttop.AssartNumbers': WHATEVER THE INPUT: true; the input reads as it did. -/
def assartNumbersSpec : ChangeSpec := { name := "assartNumbers", fn := fun _ => fun
  | [d1, d2, d3] => { results := [.lit (.bool true)], args := [d1, d2, d3] }
  | _ => none }
def assartNumbersRow : OpenClaim := { program := "ytdoaepopkdeonaa", sum := "2177c9ff5107b7372d88c064964f9c84d8490a5964f75b7f79476747082e4e18", func := "assart/assarttop.AssartNumbers", spec := "assartNumbers", apart := false }
def AssartNumbersSaid : Prop := assartNumbersRow.holds Try.pinned (OpenSpec.ofChange assartNumbersSpec)

/-- ITS FALSE NEIGHBOUR: 'it returns false'. Refute it at one input. -/
def assartNumbersWrong : ChangeSpec := { name := "assartNumbers", fn := fun _ => fun
  | [d1, d2, d3] => { results := [.lit (.bool false)], args := [d1, d2, d3] }
  | _ => none }
def AssartNumbersWrongFalsely : Prop := assartNumbersRow.holds Try.pinned (OpenSpec.ofChange assartNumbersWrong)

/-- 'assartlaw02.ConvNarrow': WHATEVER THE INPUT: true; the input reads as it did. -/
def convNarrowSpec : ChangeSpec := { name := "convNarrow", fn := fun _ => fun
  | [d1, d2, d3] => { results := [.lit (.bool true)], args := [d1, d2, d3] }
  | _ => none }
def convNarrowRow : OpenClaim := { program := "ytdoaepopkdeonaa", sum := "2177c9ff5107b7372d88c064964f9c84d8490a5964f75b7f79476747082e4e18", func := "assart/assartlaw02.ConvNarrow", spec := "convNarrow", apart := false }
def ConvNarrowSaid : Prop := convNarrowRow.holds Try.pinned (OpenSpec.ofChange convNarrowSpec)

/-- ITS FALSE NEIGHBOUR: 'it returns false'. Refute it at one input. -/
def convNarrowWrong : ChangeSpec := { name := "convNarrow", fn := fun _ => fun
  | [d1, d2, d3] => { results := [.lit (.bool false)], args := [d1, d2, d3] }
  | _ => none }
def ConvNarrowWrongFalsely : Prop := convNarrowRow.holds Try.pinned (OpenSpec.ofChange convNarrowWrong)

/-- 'assartlaw02.ConvSwaps': WHATEVER THE INPUT: true; the input reads as it did. -/
def convSwapsSpec : ChangeSpec := { name := "convSwaps", fn := fun _ => fun
  | [d1, d2] => { results := [.lit (.bool true)], args := [d1, d2] }
  | _ => none }
def convSwapsRow : OpenClaim := { program := "ytdoaepopkdeonaa", sum := "2177c9ff5107b7372d88c064964f9c84d8490a5964f75b7f79476747082e4e18", func := "assart/assartlaw02.ConvSwaps", spec := "convSwaps", apart := false }
def ConvSwapsSaid : Prop := convSwapsRow.holds Try.pinned (OpenSpec.ofChange convSwapsSpec)

/-- ITS FALSE NEIGHBOUR: 'it returns false'. Refute it at one input. -/
def convSwapsWrong : ChangeSpec := { name := "convSwaps", fn := fun _ => fun
  | [d1, d2] => { results := [.lit (.bool false)], args := [d1, d2] }
  | _ => none }
def ConvSwapsWrongFalsely : Prop := convSwapsRow.holds Try.pinned (OpenSpec.ofChange convSwapsWrong)

/-- 'assartlaw02.ConvWraps': WHATEVER THE INPUT: true; the input reads as it did. -/
def convWrapsSpec : ChangeSpec := { name := "convWraps", fn := fun _ => fun
  | [d1, d2] => { results := [.lit (.bool true)], args := [d1, d2] }
  | _ => none }
def convWrapsRow : OpenClaim := { program := "ytdoaepopkdeonaa", sum := "2177c9ff5107b7372d88c064964f9c84d8490a5964f75b7f79476747082e4e18", func := "assart/assartlaw02.ConvWraps", spec := "convWraps", apart := false }
def ConvWrapsSaid : Prop := convWrapsRow.holds Try.pinned (OpenSpec.ofChange convWrapsSpec)

/-- ITS FALSE NEIGHBOUR: 'it returns false'. Refute it at one input. -/
def convWrapsWrong : ChangeSpec := { name := "convWraps", fn := fun _ => fun
  | [d1, d2] => { results := [.lit (.bool false)], args := [d1, d2] }
  | _ => none }
def ConvWrapsWrongFalsely : Prop := convWrapsRow.holds Try.pinned (OpenSpec.ofChange convWrapsWrong)

/-- 'assartlaw02.ConvRounds': WHATEVER THE INPUT: true; the input reads as it did. -/
def convRoundsSpec : ChangeSpec := { name := "convRounds", fn := fun _ => fun
  | [d1, d2, d3] => { results := [.lit (.bool true)], args := [d1, d2, d3] }
  | _ => none }
def convRoundsRow : OpenClaim := { program := "ytdoaepopkdeonaa", sum := "2177c9ff5107b7372d88c064964f9c84d8490a5964f75b7f79476747082e4e18", func := "assart/assartlaw02.ConvRounds", spec := "convRounds", apart := false }
def ConvRoundsSaid : Prop := convRoundsRow.holds Try.pinned (OpenSpec.ofChange convRoundsSpec)

/-- ITS FALSE NEIGHBOUR: 'it returns false'. Refute it at one input. -/
def convRoundsWrong : ChangeSpec := { name := "convRounds", fn := fun _ => fun
  | [d1, d2, d3] => { results := [.lit (.bool false)], args := [d1, d2, d3] }
  | _ => none }
def ConvRoundsWrongFalsely : Prop := convRoundsRow.holds Try.pinned (OpenSpec.ofChange convRoundsWrong)

/- THE SECOND FORM. 'bulk': how many values and letters a reading holds, each counted each time it is reached (what is shared counts as often as it is met; a slice's spare places count too). A statement '..UptoSaid' is the law's where the arguments, and the package variables that the reading takes, are together of bulk at most 1048576: NARROWER than '..Said'. Prove '..Said' where nothing that the law and all that it calls make is longer than what came in: it says more and counts as full. Else prove '..UptoSaid'. A law counts once. -/
mutual
def uptoBulk {H : Type} : DataW H → Nat
  | .lit (.string bytes) => bytes.length + 1
  | .lit _ => 1
  | .nil => 1
  | .ptr d => uptoBulk d + 1
  | .slice elems spare => uptoBulkAll elems + uptoBulkAll spare + 1
  | .agg parts => uptoBulkAll parts + 1
  | .iface _ d => uptoBulk d + 1
  | .map entries => uptoBulkEntries entries + 1
  | .held _ => 1
def uptoBulkAll {H : Type} : List (DataW H) → Nat
  | [] => 0
  | d :: r => uptoBulk d + uptoBulkAll r
def uptoBulkEntries {H : Type} : List (Lit × DataW H) → Nat
  | [] => 0
  | x :: r => uptoBulkEntry x + uptoBulkEntries r
def uptoBulkEntry {H : Type} : Lit × DataW H → Nat
  | (.string bytes, d) => bytes.length + uptoBulk d + 1
  | (_, d) => uptoBulk d + 1
 end
def uptoSmall : (H : Type) → List (DataW H) → Bool := fun _ ds => decide (uptoBulkAll ds ≤ 1048576)
def OpenSpec.upto (s : _root_.Go.ChangeSpec) : _root_.Go.OpenSpec := { _root_.Go.OpenSpec.ofChange s with cond := some uptoSmall }

/-- 'assartlaw02.ConvMoves', WHERE WHAT IT READS IS OF BULK AT MOST 1048576: true; the input reads as it did. -/
def convMovesUptoRow : OpenClaim := { program := "ytdoaepopkdeonaa", sum := "2177c9ff5107b7372d88c064964f9c84d8490a5964f75b7f79476747082e4e18", func := "assart/assartlaw02.ConvMoves", spec := "convMoves", apart := false, narrowed := true }
def ConvMovesUptoSaid : Prop := convMovesUptoRow.holds Try.pinned (OpenSpec.upto convMovesSpec)

/-- 'assartlaw02.ConvDoubles', WHERE WHAT IT READS IS OF BULK AT MOST 1048576: true; the input reads as it did. -/
def convDoublesUptoRow : OpenClaim := { program := "ytdoaepopkdeonaa", sum := "2177c9ff5107b7372d88c064964f9c84d8490a5964f75b7f79476747082e4e18", func := "assart/assartlaw02.ConvDoubles", spec := "convDoubles", apart := false, narrowed := true }
def ConvDoublesUptoSaid : Prop := convDoublesUptoRow.holds Try.pinned (OpenSpec.upto convDoublesSpec)

/-- 'assartlaw02.ConvFields', WHERE WHAT IT READS IS OF BULK AT MOST 1048576: true; the input reads as it did. -/
def convFieldsUptoRow : OpenClaim := { program := "ytdoaepopkdeonaa", sum := "2177c9ff5107b7372d88c064964f9c84d8490a5964f75b7f79476747082e4e18", func := "assart/assartlaw02.ConvFields", spec := "convFields", apart := false, narrowed := true }
def ConvFieldsUptoSaid : Prop := convFieldsUptoRow.holds Try.pinned (OpenSpec.upto convFieldsSpec)

/-- 'assartlaw02.ConvPieces', WHERE WHAT IT READS IS OF BULK AT MOST 1048576: true; the input reads as it did. -/
def convPiecesUptoRow : OpenClaim := { program := "ytdoaepopkdeonaa", sum := "2177c9ff5107b7372d88c064964f9c84d8490a5964f75b7f79476747082e4e18", func := "assart/assartlaw02.ConvPieces", spec := "convPieces", apart := false, narrowed := true }
def ConvPiecesUptoSaid : Prop := convPiecesUptoRow.holds Try.pinned (OpenSpec.upto convPiecesSpec)

/-- 'assarttop.AssartNumbers', WHERE WHAT IT READS IS OF BULK AT MOST 1048576: true; the input reads as it did. -/
def assartNumbersUptoRow : OpenClaim := { program := "ytdoaepopkdeonaa", sum := "2177c9ff5107b7372d88c064964f9c84d8490a5964f75b7f79476747082e4e18", func := "assart/assarttop.AssartNumbers", spec := "assartNumbers", apart := false, narrowed := true }
def AssartNumbersUptoSaid : Prop := assartNumbersUptoRow.holds Try.pinned (OpenSpec.upto assartNumbersSpec)

/-- 'assartlaw02.ConvNarrow', WHERE WHAT IT READS IS OF BULK AT MOST 1048576: true; the input reads as it did. -/
def convNarrowUptoRow : OpenClaim := { program := "ytdoaepopkdeonaa", sum := "2177c9ff5107b7372d88c064964f9c84d8490a5964f75b7f79476747082e4e18", func := "assart/assartlaw02.ConvNarrow", spec := "convNarrow", apart := false, narrowed := true }
def ConvNarrowUptoSaid : Prop := convNarrowUptoRow.holds Try.pinned (OpenSpec.upto convNarrowSpec)

/-- 'assartlaw02.ConvSwaps', WHERE WHAT IT READS IS OF BULK AT MOST 1048576: true; the input reads as it did. -/
def convSwapsUptoRow : OpenClaim := { program := "ytdoaepopkdeonaa", sum := "2177c9ff5107b7372d88c064964f9c84d8490a5964f75b7f79476747082e4e18", func := "assart/assartlaw02.ConvSwaps", spec := "convSwaps", apart := false, narrowed := true }
def ConvSwapsUptoSaid : Prop := convSwapsUptoRow.holds Try.pinned (OpenSpec.upto convSwapsSpec)

/-- 'assartlaw02.ConvWraps', WHERE WHAT IT READS IS OF BULK AT MOST 1048576: true; the input reads as it did. -/
def convWrapsUptoRow : OpenClaim := { program := "ytdoaepopkdeonaa", sum := "2177c9ff5107b7372d88c064964f9c84d8490a5964f75b7f79476747082e4e18", func := "assart/assartlaw02.ConvWraps", spec := "convWraps", apart := false, narrowed := true }
def ConvWrapsUptoSaid : Prop := convWrapsUptoRow.holds Try.pinned (OpenSpec.upto convWrapsSpec)

/-- 'assartlaw02.ConvRounds', WHERE WHAT IT READS IS OF BULK AT MOST 1048576: true; the input reads as it did. -/
def convRoundsUptoRow : OpenClaim := { program := "ytdoaepopkdeonaa", sum := "2177c9ff5107b7372d88c064964f9c84d8490a5964f75b7f79476747082e4e18", func := "assart/assartlaw02.ConvRounds", spec := "convRounds", apart := false, narrowed := true }
def ConvRoundsUptoSaid : Prop := convRoundsUptoRow.holds Try.pinned (OpenSpec.upto convRoundsSpec)

end Rows
end Go.Proofs.Ytdoaepopkdeonaa
