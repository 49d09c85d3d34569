/-
  No cell of these rows narrows 'for every input' (looked for: loops, veiled, ifaces, maps, wideKeys, modest, calm, conditions, laid).
  DERIVED. THE GIVEN ROWS OF THIS SEAT. 4 by the template 'for every input the law returns true; each argument reads behind the call as it read before'; 0 by the template 'total and deterministic' (their statements: YtdajnkcjdmnnkaaTotals.lean).
  GIVEN WITH THE SEED: the statements are not yours to turn. If you find one false, say at which input.
  Laid BY PROGRAM, IN A SANDBOX (cutbox-rows.mjs): the forced cells as the released guide's own fill.sh prints them over the translation e707a7770a8fa20e… (all of the seat's roots in one cut). By AI agents, Wed Nov 11 2026. No macro, syntax, notation, axiom, sorry.
-/
import Derived.Test.YtdajnkcjdmnnkaaChecked
import GoSem.Claim
import GoSem.ClaimJoined
import GoSem.ClaimMapViews
import Derived.JoinedTies
import Derived.KernelRfl
namespace Go.Proofs.Ytdajnkcjdmnnkaa
/- THE CELL 'sum', in the pinned program and in every row, IS THE sha256 OF THE DUMP (.gsa) THAT YtdajnkcjdmnnkaaProg.lean LOADS. Nothing in Lean hashes anything: it is a label: what it is worth is what the hold of that sum in a sandbox is worth. -/
noncomputable def Try.pinned : Pinned := { name := "ytdajnkcjdmnnkaa", sum := "e707a7770a8fa20e25e007e51ce211882c6bb45aa93b4a37824494af62bd933e", checked := Try.checked }
namespace Rows
def none {H : Type} : Left H := { results := [], args := [] }

/-- 'stemmalaw16.BlocksAll': WHATEVER THE INPUT: true; the input reads as it did. -/
def blocksAllSpec : ChangeSpec := { name := "blocksAll", fn := fun _ => fun
  | [d] => { results := [.lit (.bool true)], args := [d] }
  | _ => none }
def blocksAllRow : OpenClaim := { program := "ytdajnkcjdmnnkaa", sum := "e707a7770a8fa20e25e007e51ce211882c6bb45aa93b4a37824494af62bd933e", func := "stemma/stemmalaw16.BlocksAll", spec := "blocksAll", unfollowed := true, recurses := true, apart := false }
def BlocksAllSaid : Prop := blocksAllRow.holds Try.pinned (OpenSpec.ofChange blocksAllSpec)

/-- ITS FALSE NEIGHBOUR: 'it returns false'. Refute it at one input. -/
def blocksAllWrong : ChangeSpec := { name := "blocksAll", fn := fun _ => fun
  | [d] => { results := [.lit (.bool false)], args := [d] }
  | _ => none }
def BlocksAllWrongFalsely : Prop := blocksAllRow.holds Try.pinned (OpenSpec.ofChange blocksAllWrong)

/-- 'stemmalaw16.BlocksSplit': WHATEVER THE INPUT: true; the input reads as it did. -/
def blocksSplitSpec : ChangeSpec := { name := "blocksSplit", fn := fun _ => fun
  | [d1, d2, d3] => { results := [.lit (.bool true)], args := [d1, d2, d3] }
  | _ => none }
def blocksSplitRow : OpenClaim := { program := "ytdajnkcjdmnnkaa", sum := "e707a7770a8fa20e25e007e51ce211882c6bb45aa93b4a37824494af62bd933e", func := "stemma/stemmalaw16.BlocksSplit", spec := "blocksSplit", unfollowed := true, recurses := true, apart := false }
def BlocksSplitSaid : Prop := blocksSplitRow.holds Try.pinned (OpenSpec.ofChange blocksSplitSpec)

/-- ITS FALSE NEIGHBOUR: 'it returns false'. Refute it at one input. -/
def blocksSplitWrong : ChangeSpec := { name := "blocksSplit", fn := fun _ => fun
  | [d1, d2, d3] => { results := [.lit (.bool false)], args := [d1, d2, d3] }
  | _ => none }
def BlocksSplitWrongFalsely : Prop := blocksSplitRow.holds Try.pinned (OpenSpec.ofChange blocksSplitWrong)

/-- 'stemmalaw16.BlocksPieces': WHATEVER THE INPUT: true; the input reads as it did. -/
def blocksPiecesSpec : ChangeSpec := { name := "blocksPieces", fn := fun _ => fun
  | [d1, d2, d3] => { results := [.lit (.bool true)], args := [d1, d2, d3] }
  | _ => none }
def blocksPiecesRow : OpenClaim := { program := "ytdajnkcjdmnnkaa", sum := "e707a7770a8fa20e25e007e51ce211882c6bb45aa93b4a37824494af62bd933e", func := "stemma/stemmalaw16.BlocksPieces", spec := "blocksPieces", unfollowed := true, recurses := true, apart := false }
def BlocksPiecesSaid : Prop := blocksPiecesRow.holds Try.pinned (OpenSpec.ofChange blocksPiecesSpec)

/-- ITS FALSE NEIGHBOUR: 'it returns false'. Refute it at one input. -/
def blocksPiecesWrong : ChangeSpec := { name := "blocksPieces", fn := fun _ => fun
  | [d1, d2, d3] => { results := [.lit (.bool false)], args := [d1, d2, d3] }
  | _ => none }
def BlocksPiecesWrongFalsely : Prop := blocksPiecesRow.holds Try.pinned (OpenSpec.ofChange blocksPiecesWrong)

/-- 'stemmalaw16.BlocksAround': WHATEVER THE INPUT: true; the input reads as it did. -/
def blocksAroundSpec : ChangeSpec := { name := "blocksAround", fn := fun _ => fun
  | [d] => { results := [.lit (.bool true)], args := [d] }
  | _ => none }
def blocksAroundRow : OpenClaim := { program := "ytdajnkcjdmnnkaa", sum := "e707a7770a8fa20e25e007e51ce211882c6bb45aa93b4a37824494af62bd933e", func := "stemma/stemmalaw16.BlocksAround", spec := "blocksAround", unfollowed := true, recurses := true, apart := false }
def BlocksAroundSaid : Prop := blocksAroundRow.holds Try.pinned (OpenSpec.ofChange blocksAroundSpec)

/-- ITS FALSE NEIGHBOUR: 'it returns false'. Refute it at one input. -/
def blocksAroundWrong : ChangeSpec := { name := "blocksAround", fn := fun _ => fun
  | [d] => { results := [.lit (.bool false)], args := [d] }
  | _ => none }
def BlocksAroundWrongFalsely : Prop := blocksAroundRow.holds Try.pinned (OpenSpec.ofChange blocksAroundWrong)

/- THE SECOND FORM. 'bulk': how many values and letters a reading holds, each counted each time it is reached (what is shared counts as often as it is met; a slice's spare places count too). A statement '..UptoSaid' is the law's where the arguments, and the package variables that the reading takes, are together of bulk at most 1048576: NARROWER than '..Said'. Prove '..Said' where nothing that the law and all that it calls make is longer than what came in: it says more and counts as full. Else prove '..UptoSaid'. A law counts once. -/
mutual
def uptoBulk {H : Type} : DataW H → Nat
  | .lit (.string bytes) => bytes.length + 1
  | .lit _ => 1
  | .nil => 1
  | .ptr d => uptoBulk d + 1
  | .slice elems spare => uptoBulkAll elems + uptoBulkAll spare + 1
  | .agg parts => uptoBulkAll parts + 1
  | .iface _ d => uptoBulk d + 1
  | .map entries => uptoBulkEntries entries + 1
  | .held _ => 1
def uptoBulkAll {H : Type} : List (DataW H) → Nat
  | [] => 0
  | d :: r => uptoBulk d + uptoBulkAll r
def uptoBulkEntries {H : Type} : List (Lit × DataW H) → Nat
  | [] => 0
  | x :: r => uptoBulkEntry x + uptoBulkEntries r
def uptoBulkEntry {H : Type} : Lit × DataW H → Nat
  | (.string bytes, d) => bytes.length + uptoBulk d + 1
  | (_, d) => uptoBulk d + 1
 end
def uptoSmall : (H : Type) → List (DataW H) → Bool := fun _ ds => decide (uptoBulkAll ds ≤ 1048576)
def OpenSpec.upto (s : _root_.Go.ChangeSpec) : _root_.Go.OpenSpec := { _root_.Go.OpenSpec.ofChange s with cond := some uptoSmall }

/-- 'stemmalaw16.BlocksAll', WHERE WHAT IT READS IS OF BULK AT MOST 1048576: true; the input reads as it did. -/
def blocksAllUptoRow : OpenClaim := { program := "ytdajnkcjdmnnkaa", sum := "e707a7770a8fa20e25e007e51ce211882c6bb45aa93b4a37824494af62bd933e", func := "stemma/stemmalaw16.BlocksAll", spec := "blocksAll", unfollowed := true, recurses := true, apart := false, narrowed := true }
def BlocksAllUptoSaid : Prop := blocksAllUptoRow.holds Try.pinned (OpenSpec.upto blocksAllSpec)

/-- 'stemmalaw16.BlocksSplit', WHERE WHAT IT READS IS OF BULK AT MOST 1048576: true; the input reads as it did. -/
def blocksSplitUptoRow : OpenClaim := { program := "ytdajnkcjdmnnkaa", sum := "e707a7770a8fa20e25e007e51ce211882c6bb45aa93b4a37824494af62bd933e", func := "stemma/stemmalaw16.BlocksSplit", spec := "blocksSplit", unfollowed := true, recurses := true, apart := false, narrowed := true }
def BlocksSplitUptoSaid : Prop := blocksSplitUptoRow.holds Try.pinned (OpenSpec.upto blocksSplitSpec)

/-- 'stemmalaw16.BlocksPieces', WHERE WHAT IT READS IS OF BULK AT MOST 1048576: true; the input reads as it did. -/
def blocksPiecesUptoRow : OpenClaim := { program := "ytdajnkcjdmnnkaa", sum := "e707a7770a8fa20e25e007e51ce211882c6bb45aa93b4a37824494af62bd933e", func := "stemma/stemmalaw16.BlocksPieces", spec := "blocksPieces", unfollowed := true, recurses := true, apart := false, narrowed := true }
def BlocksPiecesUptoSaid : Prop := blocksPiecesUptoRow.holds Try.pinned (OpenSpec.upto blocksPiecesSpec)

/-- 'stemmalaw16.BlocksAround', WHERE WHAT IT READS IS OF BULK AT MOST 1048576: true; the input reads as it did. -/
def blocksAroundUptoRow : OpenClaim := { program := "ytdajnkcjdmnnkaa", sum := "e707a7770a8fa20e25e007e51ce211882c6bb45aa93b4a37824494af62bd933e", func := "stemma/stemmalaw16.BlocksAround", spec := "blocksAround", unfollowed := true, recurses := true, apart := false, narrowed := true }
def BlocksAroundUptoSaid : Prop := blocksAroundUptoRow.holds Try.pinned (OpenSpec.upto blocksAroundSpec)

end Rows
end Go.Proofs.Ytdajnkcjdmnnkaa
