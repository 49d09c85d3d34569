/-
  No cell of these rows narrows 'for every input' (looked for: loops, veiled, ifaces, maps, wideKeys, modest, calm, conditions, laid).
  DERIVED. THE GIVEN ROWS OF THIS SEAT. 13 by the template 'for every input the law returns true; each argument reads behind the call as it read before'; 0 by the template 'total and deterministic' (their statements: YtokpcpopibpebaaTotals.lean).
  GIVEN WITH THE SEED: the statements are not yours to turn. If you find one false, say at which input.
  Laid BY PROGRAM, IN A SANDBOX (cutbox-rows.mjs): the forced cells as the released guide's own fill.sh prints them over the translation c7b58dc26bb92040… (all of the seat's roots in one cut). By AI agents, Wed Nov 11 2026. No macro, syntax, notation, axiom, sorry.
-/
import Derived.Test.YtokpcpopibpebaaChecked
import GoSem.Claim
import GoSem.ClaimJoined
import GoSem.ClaimMapViews
import Derived.JoinedTies
import Derived.KernelRfl
namespace Go.Proofs.Ytokpcpopibpebaa
/- THE CELL 'sum', in the pinned program and in every row, IS THE sha256 OF THE DUMP (.gsa) THAT YtokpcpopibpebaaProg.lean LOADS. Nothing in Lean hashes anything: it is a label: what it is worth is what the hold of that sum in a sandbox is worth. -/
noncomputable def Try.pinned : Pinned := { name := "ytokpcpopibpebaa", sum := "c7b58dc26bb920409ad096f4ed0f38cbd409f23e217a460171f71d663bc1236e", checked := Try.checked }
namespace Rows
def none {H : Type} : Left H := { results := [], args := [] }

/-- 'stemmalaw03.VarintPuts': WHATEVER THE INPUT: true; the input reads as it did. -/
def varintPutsSpec : ChangeSpec := { name := "varintPuts", fn := fun _ => fun
  | [d] => { results := [.lit (.bool true)], args := [d] }
  | _ => none }
def varintPutsRow : OpenClaim := { program := "ytokpcpopibpebaa", sum := "c7b58dc26bb920409ad096f4ed0f38cbd409f23e217a460171f71d663bc1236e", func := "stemma/stemmalaw03.VarintPuts", spec := "varintPuts", apart := false }
def VarintPutsSaid : Prop := varintPutsRow.holds Try.pinned (OpenSpec.ofChange varintPutsSpec)

/-- ITS FALSE NEIGHBOUR: 'it returns false'. Refute it at one input. -/
def varintPutsWrong : ChangeSpec := { name := "varintPuts", fn := fun _ => fun
  | [d] => { results := [.lit (.bool false)], args := [d] }
  | _ => none }
def VarintPutsWrongFalsely : Prop := varintPutsRow.holds Try.pinned (OpenSpec.ofChange varintPutsWrong)

/-- 'stemmalaw03.VarintZigs': WHATEVER THE INPUT: true; the input reads as it did. -/
def varintZigsSpec : ChangeSpec := { name := "varintZigs", fn := fun _ => fun
  | [d1, d2] => { results := [.lit (.bool true)], args := [d1, d2] }
  | _ => none }
def varintZigsRow : OpenClaim := { program := "ytokpcpopibpebaa", sum := "c7b58dc26bb920409ad096f4ed0f38cbd409f23e217a460171f71d663bc1236e", func := "stemma/stemmalaw03.VarintZigs", spec := "varintZigs", apart := false }
def VarintZigsSaid : Prop := varintZigsRow.holds Try.pinned (OpenSpec.ofChange varintZigsSpec)

/-- ITS FALSE NEIGHBOUR: 'it returns false'. Refute it at one input. -/
def varintZigsWrong : ChangeSpec := { name := "varintZigs", fn := fun _ => fun
  | [d1, d2] => { results := [.lit (.bool false)], args := [d1, d2] }
  | _ => none }
def VarintZigsWrongFalsely : Prop := varintZigsRow.holds Try.pinned (OpenSpec.ofChange varintZigsWrong)

/-- 'stemmalaw03.VarintSigns': WHATEVER THE INPUT: true; the input reads as it did. -/
def varintSignsSpec : ChangeSpec := { name := "varintSigns", fn := fun _ => fun
  | [d1, d2] => { results := [.lit (.bool true)], args := [d1, d2] }
  | _ => none }
def varintSignsRow : OpenClaim := { program := "ytokpcpopibpebaa", sum := "c7b58dc26bb920409ad096f4ed0f38cbd409f23e217a460171f71d663bc1236e", func := "stemma/stemmalaw03.VarintSigns", spec := "varintSigns", apart := false }
def VarintSignsSaid : Prop := varintSignsRow.holds Try.pinned (OpenSpec.ofChange varintSignsSpec)

/-- ITS FALSE NEIGHBOUR: 'it returns false'. Refute it at one input. -/
def varintSignsWrong : ChangeSpec := { name := "varintSigns", fn := fun _ => fun
  | [d1, d2] => { results := [.lit (.bool false)], args := [d1, d2] }
  | _ => none }
def VarintSignsWrongFalsely : Prop := varintSignsRow.holds Try.pinned (OpenSpec.ofChange varintSignsWrong)

/-- 'stemmalaw03.VarintTakes': WHATEVER THE INPUT: true; the input reads as it did. -/
def varintTakesSpec : ChangeSpec := { name := "varintTakes", fn := fun _ => fun
  | [d] => { results := [.lit (.bool true)], args := [d] }
  | _ => none }
def varintTakesRow : OpenClaim := { program := "ytokpcpopibpebaa", sum := "c7b58dc26bb920409ad096f4ed0f38cbd409f23e217a460171f71d663bc1236e", func := "stemma/stemmalaw03.VarintTakes", spec := "varintTakes", apart := false }
def VarintTakesSaid : Prop := varintTakesRow.holds Try.pinned (OpenSpec.ofChange varintTakesSpec)

/-- ITS FALSE NEIGHBOUR: 'it returns false'. Refute it at one input. -/
def varintTakesWrong : ChangeSpec := { name := "varintTakes", fn := fun _ => fun
  | [d] => { results := [.lit (.bool false)], args := [d] }
  | _ => none }
def VarintTakesWrongFalsely : Prop := varintTakesRow.holds Try.pinned (OpenSpec.ofChange varintTakesWrong)

/-- 'stemmalaw03.VarintBack': WHATEVER THE INPUT: true; the input reads as it did. -/
def varintBackSpec : ChangeSpec := { name := "varintBack", fn := fun _ => fun
  | [d1, d2, d3] => { results := [.lit (.bool true)], args := [d1, d2, d3] }
  | _ => none }
def varintBackRow : OpenClaim := { program := "ytokpcpopibpebaa", sum := "c7b58dc26bb920409ad096f4ed0f38cbd409f23e217a460171f71d663bc1236e", func := "stemma/stemmalaw03.VarintBack", spec := "varintBack", apart := false }
def VarintBackSaid : Prop := varintBackRow.holds Try.pinned (OpenSpec.ofChange varintBackSpec)

/-- ITS FALSE NEIGHBOUR: 'it returns false'. Refute it at one input. -/
def varintBackWrong : ChangeSpec := { name := "varintBack", fn := fun _ => fun
  | [d1, d2, d3] => { results := [.lit (.bool false)], args := [d1, d2, d3] }
  | _ => none }
def VarintBackWrongFalsely : Prop := varintBackRow.holds Try.pinned (OpenSpec.ofChange varintBackWrong)

/-- 'stemmalaw03.VarintOnly': WHATEVER THE INPUT: true; the input reads as it did. -/
def varintOnlySpec : ChangeSpec := { name := "varintOnly", fn := fun _ => fun
  | [d1, d2] => { results := [.lit (.bool true)], args := [d1, d2] }
  | _ => none }
def varintOnlyRow : OpenClaim := { program := "ytokpcpopibpebaa", sum := "c7b58dc26bb920409ad096f4ed0f38cbd409f23e217a460171f71d663bc1236e", func := "stemma/stemmalaw03.VarintOnly", spec := "varintOnly", apart := false }
def VarintOnlySaid : Prop := varintOnlyRow.holds Try.pinned (OpenSpec.ofChange varintOnlySpec)

/-- ITS FALSE NEIGHBOUR: 'it returns false'. Refute it at one input. -/
def varintOnlyWrong : ChangeSpec := { name := "varintOnly", fn := fun _ => fun
  | [d1, d2] => { results := [.lit (.bool false)], args := [d1, d2] }
  | _ => none }
def VarintOnlyWrongFalsely : Prop := varintOnlyRow.holds Try.pinned (OpenSpec.ofChange varintOnlyWrong)

/-- 'stemmalaw03.VarintLess': WHATEVER THE INPUT: true; the input reads as it did. -/
def varintLessSpec : ChangeSpec := { name := "varintLess", fn := fun _ => fun
  | [d1, d2] => { results := [.lit (.bool true)], args := [d1, d2] }
  | _ => none }
def varintLessRow : OpenClaim := { program := "ytokpcpopibpebaa", sum := "c7b58dc26bb920409ad096f4ed0f38cbd409f23e217a460171f71d663bc1236e", func := "stemma/stemmalaw03.VarintLess", spec := "varintLess", apart := false }
def VarintLessSaid : Prop := varintLessRow.holds Try.pinned (OpenSpec.ofChange varintLessSpec)

/-- ITS FALSE NEIGHBOUR: 'it returns false'. Refute it at one input. -/
def varintLessWrong : ChangeSpec := { name := "varintLess", fn := fun _ => fun
  | [d1, d2] => { results := [.lit (.bool false)], args := [d1, d2] }
  | _ => none }
def VarintLessWrongFalsely : Prop := varintLessRow.holds Try.pinned (OpenSpec.ofChange varintLessWrong)

/-- 'stemmalaw04.ColumnPuts': WHATEVER THE INPUT: true; the input reads as it did. -/
def columnPutsSpec : ChangeSpec := { name := "columnPuts", fn := fun _ => fun
  | [d1, d2] => { results := [.lit (.bool true)], args := [d1, d2] }
  | _ => none }
def columnPutsRow : OpenClaim := { program := "ytokpcpopibpebaa", sum := "c7b58dc26bb920409ad096f4ed0f38cbd409f23e217a460171f71d663bc1236e", func := "stemma/stemmalaw04.ColumnPuts", spec := "columnPuts", unfollowed := true, recurses := true, apart := false }
def ColumnPutsSaid : Prop := columnPutsRow.holds Try.pinned (OpenSpec.ofChange columnPutsSpec)

/-- ITS FALSE NEIGHBOUR: 'it returns false'. Refute it at one input. -/
def columnPutsWrong : ChangeSpec := { name := "columnPuts", fn := fun _ => fun
  | [d1, d2] => { results := [.lit (.bool false)], args := [d1, d2] }
  | _ => none }
def ColumnPutsWrongFalsely : Prop := columnPutsRow.holds Try.pinned (OpenSpec.ofChange columnPutsWrong)

/-- 'stemmalaw04.ColumnShort': WHATEVER THE INPUT: true; the input reads as it did. -/
def columnShortSpec : ChangeSpec := { name := "columnShort", fn := fun _ => fun
  | [d1, d2, d3] => { results := [.lit (.bool true)], args := [d1, d2, d3] }
  | _ => none }
def columnShortRow : OpenClaim := { program := "ytokpcpopibpebaa", sum := "c7b58dc26bb920409ad096f4ed0f38cbd409f23e217a460171f71d663bc1236e", func := "stemma/stemmalaw04.ColumnShort", spec := "columnShort", unfollowed := true, recurses := true, apart := false }
def ColumnShortSaid : Prop := columnShortRow.holds Try.pinned (OpenSpec.ofChange columnShortSpec)

/-- ITS FALSE NEIGHBOUR: 'it returns false'. Refute it at one input. -/
def columnShortWrong : ChangeSpec := { name := "columnShort", fn := fun _ => fun
  | [d1, d2, d3] => { results := [.lit (.bool false)], args := [d1, d2, d3] }
  | _ => none }
def ColumnShortWrongFalsely : Prop := columnShortRow.holds Try.pinned (OpenSpec.ofChange columnShortWrong)

/-- 'stemmalaw04.ColumnTakes': WHATEVER THE INPUT: true; the input reads as it did. -/
def columnTakesSpec : ChangeSpec := { name := "columnTakes", fn := fun _ => fun
  | [d1, d2] => { results := [.lit (.bool true)], args := [d1, d2] }
  | _ => none }
def columnTakesRow : OpenClaim := { program := "ytokpcpopibpebaa", sum := "c7b58dc26bb920409ad096f4ed0f38cbd409f23e217a460171f71d663bc1236e", func := "stemma/stemmalaw04.ColumnTakes", spec := "columnTakes", unfollowed := true, recurses := true, apart := false }
def ColumnTakesSaid : Prop := columnTakesRow.holds Try.pinned (OpenSpec.ofChange columnTakesSpec)

/-- ITS FALSE NEIGHBOUR: 'it returns false'. Refute it at one input. -/
def columnTakesWrong : ChangeSpec := { name := "columnTakes", fn := fun _ => fun
  | [d1, d2] => { results := [.lit (.bool false)], args := [d1, d2] }
  | _ => none }
def ColumnTakesWrongFalsely : Prop := columnTakesRow.holds Try.pinned (OpenSpec.ofChange columnTakesWrong)

/-- 'stemmalaw04.ColumnBack': WHATEVER THE INPUT: true; the input reads as it did. -/
def columnBackSpec : ChangeSpec := { name := "columnBack", fn := fun _ => fun
  | [d1, d2, d3] => { results := [.lit (.bool true)], args := [d1, d2, d3] }
  | _ => none }
def columnBackRow : OpenClaim := { program := "ytokpcpopibpebaa", sum := "c7b58dc26bb920409ad096f4ed0f38cbd409f23e217a460171f71d663bc1236e", func := "stemma/stemmalaw04.ColumnBack", spec := "columnBack", unfollowed := true, recurses := true, apart := false }
def ColumnBackSaid : Prop := columnBackRow.holds Try.pinned (OpenSpec.ofChange columnBackSpec)

/-- ITS FALSE NEIGHBOUR: 'it returns false'. Refute it at one input. -/
def columnBackWrong : ChangeSpec := { name := "columnBack", fn := fun _ => fun
  | [d1, d2, d3] => { results := [.lit (.bool false)], args := [d1, d2, d3] }
  | _ => none }
def ColumnBackWrongFalsely : Prop := columnBackRow.holds Try.pinned (OpenSpec.ofChange columnBackWrong)

/-- 'stemmalaw04.ColumnOnly': WHATEVER THE INPUT: true; the input reads as it did. -/
def columnOnlySpec : ChangeSpec := { name := "columnOnly", fn := fun _ => fun
  | [d1, d2] => { results := [.lit (.bool true)], args := [d1, d2] }
  | _ => none }
def columnOnlyRow : OpenClaim := { program := "ytokpcpopibpebaa", sum := "c7b58dc26bb920409ad096f4ed0f38cbd409f23e217a460171f71d663bc1236e", func := "stemma/stemmalaw04.ColumnOnly", spec := "columnOnly", unfollowed := true, recurses := true, apart := false }
def ColumnOnlySaid : Prop := columnOnlyRow.holds Try.pinned (OpenSpec.ofChange columnOnlySpec)

/-- ITS FALSE NEIGHBOUR: 'it returns false'. Refute it at one input. -/
def columnOnlyWrong : ChangeSpec := { name := "columnOnly", fn := fun _ => fun
  | [d1, d2] => { results := [.lit (.bool false)], args := [d1, d2] }
  | _ => none }
def ColumnOnlyWrongFalsely : Prop := columnOnlyRow.holds Try.pinned (OpenSpec.ofChange columnOnlyWrong)

/-- 'stemmalaw04.ColumnTwo': WHATEVER THE INPUT: true; the input reads as it did. -/
def columnTwoSpec : ChangeSpec := { name := "columnTwo", fn := fun _ => fun
  | [d1, d2, d3] => { results := [.lit (.bool true)], args := [d1, d2, d3] }
  | _ => none }
def columnTwoRow : OpenClaim := { program := "ytokpcpopibpebaa", sum := "c7b58dc26bb920409ad096f4ed0f38cbd409f23e217a460171f71d663bc1236e", func := "stemma/stemmalaw04.ColumnTwo", spec := "columnTwo", unfollowed := true, recurses := true, apart := false }
def ColumnTwoSaid : Prop := columnTwoRow.holds Try.pinned (OpenSpec.ofChange columnTwoSpec)

/-- ITS FALSE NEIGHBOUR: 'it returns false'. Refute it at one input. -/
def columnTwoWrong : ChangeSpec := { name := "columnTwo", fn := fun _ => fun
  | [d1, d2, d3] => { results := [.lit (.bool false)], args := [d1, d2, d3] }
  | _ => none }
def ColumnTwoWrongFalsely : Prop := columnTwoRow.holds Try.pinned (OpenSpec.ofChange columnTwoWrong)

/- THE SECOND FORM. 'bulk': how many values and letters a reading holds, each counted each time it is reached (what is shared counts as often as it is met; a slice's spare places count too). A statement '..UptoSaid' is the law's where the arguments, and the package variables that the reading takes, are together of bulk at most 1048576: NARROWER than '..Said'. Prove '..Said' where nothing that the law and all that it calls make is longer than what came in: it says more and counts as full. Else prove '..UptoSaid'. A law counts once. -/
mutual
def uptoBulk {H : Type} : DataW H → Nat
  | .lit (.string bytes) => bytes.length + 1
  | .lit _ => 1
  | .nil => 1
  | .ptr d => uptoBulk d + 1
  | .slice elems spare => uptoBulkAll elems + uptoBulkAll spare + 1
  | .agg parts => uptoBulkAll parts + 1
  | .iface _ d => uptoBulk d + 1
  | .map entries => uptoBulkEntries entries + 1
  | .held _ => 1
def uptoBulkAll {H : Type} : List (DataW H) → Nat
  | [] => 0
  | d :: r => uptoBulk d + uptoBulkAll r
def uptoBulkEntries {H : Type} : List (Lit × DataW H) → Nat
  | [] => 0
  | x :: r => uptoBulkEntry x + uptoBulkEntries r
def uptoBulkEntry {H : Type} : Lit × DataW H → Nat
  | (.string bytes, d) => bytes.length + uptoBulk d + 1
  | (_, d) => uptoBulk d + 1
 end
def uptoSmall : (H : Type) → List (DataW H) → Bool := fun _ ds => decide (uptoBulkAll ds ≤ 1048576)
def OpenSpec.upto (s : _root_.Go.ChangeSpec) : _root_.Go.OpenSpec := { _root_.Go.OpenSpec.ofChange s with cond := some uptoSmall }

/-- 'stemmalaw03.VarintPuts', WHERE WHAT IT READS IS OF BULK AT MOST 1048576: true; the input reads as it did. -/
def varintPutsUptoRow : OpenClaim := { program := "ytokpcpopibpebaa", sum := "c7b58dc26bb920409ad096f4ed0f38cbd409f23e217a460171f71d663bc1236e", func := "stemma/stemmalaw03.VarintPuts", spec := "varintPuts", apart := false, narrowed := true }
def VarintPutsUptoSaid : Prop := varintPutsUptoRow.holds Try.pinned (OpenSpec.upto varintPutsSpec)

/-- 'stemmalaw03.VarintZigs', WHERE WHAT IT READS IS OF BULK AT MOST 1048576: true; the input reads as it did. -/
def varintZigsUptoRow : OpenClaim := { program := "ytokpcpopibpebaa", sum := "c7b58dc26bb920409ad096f4ed0f38cbd409f23e217a460171f71d663bc1236e", func := "stemma/stemmalaw03.VarintZigs", spec := "varintZigs", apart := false, narrowed := true }
def VarintZigsUptoSaid : Prop := varintZigsUptoRow.holds Try.pinned (OpenSpec.upto varintZigsSpec)

/-- 'stemmalaw03.VarintSigns', WHERE WHAT IT READS IS OF BULK AT MOST 1048576: true; the input reads as it did. -/
def varintSignsUptoRow : OpenClaim := { program := "ytokpcpopibpebaa", sum := "c7b58dc26bb920409ad096f4ed0f38cbd409f23e217a460171f71d663bc1236e", func := "stemma/stemmalaw03.VarintSigns", spec := "varintSigns", apart := false, narrowed := true }
def VarintSignsUptoSaid : Prop := varintSignsUptoRow.holds Try.pinned (OpenSpec.upto varintSignsSpec)

/-- 'stemmalaw03.VarintTakes', WHERE WHAT IT READS IS OF BULK AT MOST 1048576: true; the input reads as it did. -/
def varintTakesUptoRow : OpenClaim := { program := "ytokpcpopibpebaa", sum := "c7b58dc26bb920409ad096f4ed0f38cbd409f23e217a460171f71d663bc1236e", func := "stemma/stemmalaw03.VarintTakes", spec := "varintTakes", apart := false, narrowed := true }
def VarintTakesUptoSaid : Prop := varintTakesUptoRow.holds Try.pinned (OpenSpec.upto varintTakesSpec)

/-- 'stemmalaw03.VarintBack', WHERE WHAT IT READS IS OF BULK AT MOST 1048576: true; the input reads as it did. -/
def varintBackUptoRow : OpenClaim := { program := "ytokpcpopibpebaa", sum := "c7b58dc26bb920409ad096f4ed0f38cbd409f23e217a460171f71d663bc1236e", func := "stemma/stemmalaw03.VarintBack", spec := "varintBack", apart := false, narrowed := true }
def VarintBackUptoSaid : Prop := varintBackUptoRow.holds Try.pinned (OpenSpec.upto varintBackSpec)

/-- 'stemmalaw03.VarintOnly', WHERE WHAT IT READS IS OF BULK AT MOST 1048576: true; the input reads as it did. -/
def varintOnlyUptoRow : OpenClaim := { program := "ytokpcpopibpebaa", sum := "c7b58dc26bb920409ad096f4ed0f38cbd409f23e217a460171f71d663bc1236e", func := "stemma/stemmalaw03.VarintOnly", spec := "varintOnly", apart := false, narrowed := true }
def VarintOnlyUptoSaid : Prop := varintOnlyUptoRow.holds Try.pinned (OpenSpec.upto varintOnlySpec)

/-- 'stemmalaw03.VarintLess', WHERE WHAT IT READS IS OF BULK AT MOST 1048576: true; the input reads as it did. -/
def varintLessUptoRow : OpenClaim := { program := "ytokpcpopibpebaa", sum := "c7b58dc26bb920409ad096f4ed0f38cbd409f23e217a460171f71d663bc1236e", func := "stemma/stemmalaw03.VarintLess", spec := "varintLess", apart := false, narrowed := true }
def VarintLessUptoSaid : Prop := varintLessUptoRow.holds Try.pinned (OpenSpec.upto varintLessSpec)

/-- 'stemmalaw04.ColumnPuts', WHERE WHAT IT READS IS OF BULK AT MOST 1048576: true; the input reads as it did. -/
def columnPutsUptoRow : OpenClaim := { program := "ytokpcpopibpebaa", sum := "c7b58dc26bb920409ad096f4ed0f38cbd409f23e217a460171f71d663bc1236e", func := "stemma/stemmalaw04.ColumnPuts", spec := "columnPuts", unfollowed := true, recurses := true, apart := false, narrowed := true }
def ColumnPutsUptoSaid : Prop := columnPutsUptoRow.holds Try.pinned (OpenSpec.upto columnPutsSpec)

/-- 'stemmalaw04.ColumnShort', WHERE WHAT IT READS IS OF BULK AT MOST 1048576: true; the input reads as it did. -/
def columnShortUptoRow : OpenClaim := { program := "ytokpcpopibpebaa", sum := "c7b58dc26bb920409ad096f4ed0f38cbd409f23e217a460171f71d663bc1236e", func := "stemma/stemmalaw04.ColumnShort", spec := "columnShort", unfollowed := true, recurses := true, apart := false, narrowed := true }
def ColumnShortUptoSaid : Prop := columnShortUptoRow.holds Try.pinned (OpenSpec.upto columnShortSpec)

/-- 'stemmalaw04.ColumnTakes', WHERE WHAT IT READS IS OF BULK AT MOST 1048576: true; the input reads as it did. -/
def columnTakesUptoRow : OpenClaim := { program := "ytokpcpopibpebaa", sum := "c7b58dc26bb920409ad096f4ed0f38cbd409f23e217a460171f71d663bc1236e", func := "stemma/stemmalaw04.ColumnTakes", spec := "columnTakes", unfollowed := true, recurses := true, apart := false, narrowed := true }
def ColumnTakesUptoSaid : Prop := columnTakesUptoRow.holds Try.pinned (OpenSpec.upto columnTakesSpec)

/-- 'stemmalaw04.ColumnBack', WHERE WHAT IT READS IS OF BULK AT MOST 1048576: true; the input reads as it did. -/
def columnBackUptoRow : OpenClaim := { program := "ytokpcpopibpebaa", sum := "c7b58dc26bb920409ad096f4ed0f38cbd409f23e217a460171f71d663bc1236e", func := "stemma/stemmalaw04.ColumnBack", spec := "columnBack", unfollowed := true, recurses := true, apart := false, narrowed := true }
def ColumnBackUptoSaid : Prop := columnBackUptoRow.holds Try.pinned (OpenSpec.upto columnBackSpec)

/-- 'stemmalaw04.ColumnOnly', WHERE WHAT IT READS IS OF BULK AT MOST 1048576: true; the input reads as it did. -/
def columnOnlyUptoRow : OpenClaim := { program := "ytokpcpopibpebaa", sum := "c7b58dc26bb920409ad096f4ed0f38cbd409f23e217a460171f71d663bc1236e", func := "stemma/stemmalaw04.ColumnOnly", spec := "columnOnly", unfollowed := true, recurses := true, apart := false, narrowed := true }
def ColumnOnlyUptoSaid : Prop := columnOnlyUptoRow.holds Try.pinned (OpenSpec.upto columnOnlySpec)

/-- 'stemmalaw04.ColumnTwo', WHERE WHAT IT READS IS OF BULK AT MOST 1048576: true; the input reads as it did. -/
def columnTwoUptoRow : OpenClaim := { program := "ytokpcpopibpebaa", sum := "c7b58dc26bb920409ad096f4ed0f38cbd409f23e217a460171f71d663bc1236e", func := "stemma/stemmalaw04.ColumnTwo", spec := "columnTwo", unfollowed := true, recurses := true, apart := false, narrowed := true }
def ColumnTwoUptoSaid : Prop := columnTwoUptoRow.holds Try.pinned (OpenSpec.upto columnTwoSpec)

end Rows
end Go.Proofs.Ytokpcpopibpebaa
