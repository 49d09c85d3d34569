/-
  NARROWER THAN 'FOR EVERY INPUT', by the rows' own cells (each row's printed sentence says how): GrammarTrees: loops · GrammarWhole: loops · GrammarKid: loops · GrammarFirst: loops · RepairMakes: loops · RepairKeeps: loops · RepairSmall: loops · RepairApart: loops · RepairRight: loops · RepairStays: loops.
  DERIVED. THE GIVEN ROWS OF THIS SEAT. 11 by the template 'for every input the law returns true; each argument reads behind the call as it read before'; 0 by the template 'total and deterministic' (their statements: YtcdhndhgainadaaTotals.lean).
  GIVEN WITH THE SEED: the statements are not yours to turn. If you find one false, say at which input.
  Laid BY PROGRAM, IN A SANDBOX (cutbox-rows.mjs): the forced cells as the released guide's own fill.sh prints them over the translation a2b6a1703f8478f0… (all of the seat's roots in one cut). By AI agents, Wed Nov 11 2026. No macro, syntax, notation, axiom, sorry.
-/
import Derived.Test.YtcdhndhgainadaaChecked
import GoSem.Claim
import GoSem.ClaimJoined
import GoSem.ClaimMapViews
import Derived.JoinedTies
import Derived.KernelRfl
namespace Go.Proofs.Ytcdhndhgainadaa
/- THE CELL 'sum', in the pinned program and in every row, IS THE sha256 OF THE DUMP (.gsa) THAT YtcdhndhgainadaaProg.lean LOADS. Nothing in Lean hashes anything: it is a label: what it is worth is what the hold of that sum in a sandbox is worth. -/
noncomputable def Try.pinned : Pinned := { name := "ytcdhndhgainadaa", sum := "a2b6a1703f8478f0befe0bea482f83447d9546bf0b5ea4de356e414ef2c0efea", checked := Try.checked }
namespace Rows
def none {H : Type} : Left H := { results := [], args := [] }

/-- 'stemmalaw18.GrammarKinds': WHATEVER THE INPUT: true; the input reads as it did. -/
def grammarKindsSpec : ChangeSpec := { name := "grammarKinds", fn := fun _ => fun
  | [d1, d2] => { results := [.lit (.bool true)], args := [d1, d2] }
  | _ => none }
def grammarKindsRow : OpenClaim := { program := "ytcdhndhgainadaa", sum := "a2b6a1703f8478f0befe0bea482f83447d9546bf0b5ea4de356e414ef2c0efea", func := "stemma/stemmalaw18.GrammarKinds", spec := "grammarKinds", recurses := true, apart := false }
def GrammarKindsSaid : Prop := grammarKindsRow.holds Try.pinned (OpenSpec.ofChange grammarKindsSpec)

/-- ITS FALSE NEIGHBOUR: 'it returns false'. Refute it at one input. -/
def grammarKindsWrong : ChangeSpec := { name := "grammarKinds", fn := fun _ => fun
  | [d1, d2] => { results := [.lit (.bool false)], args := [d1, d2] }
  | _ => none }
def GrammarKindsWrongFalsely : Prop := grammarKindsRow.holds Try.pinned (OpenSpec.ofChange grammarKindsWrong)

/-- 'stemmalaw18.GrammarTrees': WHATEVER THE INPUT: true; the input reads as it did. -/
def grammarTreesSpec : ChangeSpec := { name := "grammarTrees", fn := fun _ => fun
  | [d] => { results := [.lit (.bool true)], args := [d] }
  | _ => none }
def grammarTreesRow : OpenClaim := { program := "ytcdhndhgainadaa", sum := "a2b6a1703f8478f0befe0bea482f83447d9546bf0b5ea4de356e414ef2c0efea", func := "stemma/stemmalaw18.GrammarTrees", spec := "grammarTrees", recurses := true, loops := true, apart := false }
def GrammarTreesSaid : Prop := grammarTreesRow.holds Try.pinned (OpenSpec.ofChange grammarTreesSpec)

/-- ITS FALSE NEIGHBOUR: 'it returns false'. Refute it at one input. -/
def grammarTreesWrong : ChangeSpec := { name := "grammarTrees", fn := fun _ => fun
  | [d] => { results := [.lit (.bool false)], args := [d] }
  | _ => none }
def GrammarTreesWrongFalsely : Prop := grammarTreesRow.holds Try.pinned (OpenSpec.ofChange grammarTreesWrong)

/-- 'stemmalaw18.GrammarWhole': WHATEVER THE INPUT: true; the input reads as it did. -/
def grammarWholeSpec : ChangeSpec := { name := "grammarWhole", fn := fun _ => fun
  | [d] => { results := [.lit (.bool true)], args := [d] }
  | _ => none }
def grammarWholeRow : OpenClaim := { program := "ytcdhndhgainadaa", sum := "a2b6a1703f8478f0befe0bea482f83447d9546bf0b5ea4de356e414ef2c0efea", func := "stemma/stemmalaw18.GrammarWhole", spec := "grammarWhole", recurses := true, loops := true, apart := false }
def GrammarWholeSaid : Prop := grammarWholeRow.holds Try.pinned (OpenSpec.ofChange grammarWholeSpec)

/-- ITS FALSE NEIGHBOUR: 'it returns false'. Refute it at one input. -/
def grammarWholeWrong : ChangeSpec := { name := "grammarWhole", fn := fun _ => fun
  | [d] => { results := [.lit (.bool false)], args := [d] }
  | _ => none }
def GrammarWholeWrongFalsely : Prop := grammarWholeRow.holds Try.pinned (OpenSpec.ofChange grammarWholeWrong)

/-- 'stemmalaw18.GrammarKid': WHATEVER THE INPUT: true; the input reads as it did. -/
def grammarKidSpec : ChangeSpec := { name := "grammarKid", fn := fun _ => fun
  | [d1, d2] => { results := [.lit (.bool true)], args := [d1, d2] }
  | _ => none }
def grammarKidRow : OpenClaim := { program := "ytcdhndhgainadaa", sum := "a2b6a1703f8478f0befe0bea482f83447d9546bf0b5ea4de356e414ef2c0efea", func := "stemma/stemmalaw18.GrammarKid", spec := "grammarKid", recurses := true, loops := true, apart := false }
def GrammarKidSaid : Prop := grammarKidRow.holds Try.pinned (OpenSpec.ofChange grammarKidSpec)

/-- ITS FALSE NEIGHBOUR: 'it returns false'. Refute it at one input. -/
def grammarKidWrong : ChangeSpec := { name := "grammarKid", fn := fun _ => fun
  | [d1, d2] => { results := [.lit (.bool false)], args := [d1, d2] }
  | _ => none }
def GrammarKidWrongFalsely : Prop := grammarKidRow.holds Try.pinned (OpenSpec.ofChange grammarKidWrong)

/-- 'stemmalaw18.GrammarFirst': WHATEVER THE INPUT: true; the input reads as it did. -/
def grammarFirstSpec : ChangeSpec := { name := "grammarFirst", fn := fun _ => fun
  | [d] => { results := [.lit (.bool true)], args := [d] }
  | _ => none }
def grammarFirstRow : OpenClaim := { program := "ytcdhndhgainadaa", sum := "a2b6a1703f8478f0befe0bea482f83447d9546bf0b5ea4de356e414ef2c0efea", func := "stemma/stemmalaw18.GrammarFirst", spec := "grammarFirst", recurses := true, loops := true, apart := false }
def GrammarFirstSaid : Prop := grammarFirstRow.holds Try.pinned (OpenSpec.ofChange grammarFirstSpec)

/-- ITS FALSE NEIGHBOUR: 'it returns false'. Refute it at one input. -/
def grammarFirstWrong : ChangeSpec := { name := "grammarFirst", fn := fun _ => fun
  | [d] => { results := [.lit (.bool false)], args := [d] }
  | _ => none }
def GrammarFirstWrongFalsely : Prop := grammarFirstRow.holds Try.pinned (OpenSpec.ofChange grammarFirstWrong)

/-- 'stemmalaw19.RepairMakes': WHATEVER THE INPUT: true; the input reads as it did. -/
def repairMakesSpec : ChangeSpec := { name := "repairMakes", fn := fun _ => fun
  | [d] => { results := [.lit (.bool true)], args := [d] }
  | _ => none }
def repairMakesRow : OpenClaim := { program := "ytcdhndhgainadaa", sum := "a2b6a1703f8478f0befe0bea482f83447d9546bf0b5ea4de356e414ef2c0efea", func := "stemma/stemmalaw19.RepairMakes", spec := "repairMakes", unfollowed := true, recurses := true, loops := true, apart := false }
def RepairMakesSaid : Prop := repairMakesRow.holds Try.pinned (OpenSpec.ofChange repairMakesSpec)

/-- ITS FALSE NEIGHBOUR: 'it returns false'. Refute it at one input. -/
def repairMakesWrong : ChangeSpec := { name := "repairMakes", fn := fun _ => fun
  | [d] => { results := [.lit (.bool false)], args := [d] }
  | _ => none }
def RepairMakesWrongFalsely : Prop := repairMakesRow.holds Try.pinned (OpenSpec.ofChange repairMakesWrong)

/-- 'stemmalaw19.RepairKeeps': WHATEVER THE INPUT: true; the input reads as it did. -/
def repairKeepsSpec : ChangeSpec := { name := "repairKeeps", fn := fun _ => fun
  | [d] => { results := [.lit (.bool true)], args := [d] }
  | _ => none }
def repairKeepsRow : OpenClaim := { program := "ytcdhndhgainadaa", sum := "a2b6a1703f8478f0befe0bea482f83447d9546bf0b5ea4de356e414ef2c0efea", func := "stemma/stemmalaw19.RepairKeeps", spec := "repairKeeps", unfollowed := true, recurses := true, loops := true, apart := false }
def RepairKeepsSaid : Prop := repairKeepsRow.holds Try.pinned (OpenSpec.ofChange repairKeepsSpec)

/-- ITS FALSE NEIGHBOUR: 'it returns false'. Refute it at one input. -/
def repairKeepsWrong : ChangeSpec := { name := "repairKeeps", fn := fun _ => fun
  | [d] => { results := [.lit (.bool false)], args := [d] }
  | _ => none }
def RepairKeepsWrongFalsely : Prop := repairKeepsRow.holds Try.pinned (OpenSpec.ofChange repairKeepsWrong)

/-- 'stemmalaw19.RepairSmall': WHATEVER THE INPUT: true; the input reads as it did. -/
def repairSmallSpec : ChangeSpec := { name := "repairSmall", fn := fun _ => fun
  | [d] => { results := [.lit (.bool true)], args := [d] }
  | _ => none }
def repairSmallRow : OpenClaim := { program := "ytcdhndhgainadaa", sum := "a2b6a1703f8478f0befe0bea482f83447d9546bf0b5ea4de356e414ef2c0efea", func := "stemma/stemmalaw19.RepairSmall", spec := "repairSmall", unfollowed := true, recurses := true, loops := true, apart := false }
def RepairSmallSaid : Prop := repairSmallRow.holds Try.pinned (OpenSpec.ofChange repairSmallSpec)

/-- ITS FALSE NEIGHBOUR: 'it returns false'. Refute it at one input. -/
def repairSmallWrong : ChangeSpec := { name := "repairSmall", fn := fun _ => fun
  | [d] => { results := [.lit (.bool false)], args := [d] }
  | _ => none }
def RepairSmallWrongFalsely : Prop := repairSmallRow.holds Try.pinned (OpenSpec.ofChange repairSmallWrong)

/-- 'stemmalaw19.RepairApart': WHATEVER THE INPUT: true; the input reads as it did. -/
def repairApartSpec : ChangeSpec := { name := "repairApart", fn := fun _ => fun
  | [d] => { results := [.lit (.bool true)], args := [d] }
  | _ => none }
def repairApartRow : OpenClaim := { program := "ytcdhndhgainadaa", sum := "a2b6a1703f8478f0befe0bea482f83447d9546bf0b5ea4de356e414ef2c0efea", func := "stemma/stemmalaw19.RepairApart", spec := "repairApart", unfollowed := true, recurses := true, loops := true, apart := false }
def RepairApartSaid : Prop := repairApartRow.holds Try.pinned (OpenSpec.ofChange repairApartSpec)

/-- ITS FALSE NEIGHBOUR: 'it returns false'. Refute it at one input. -/
def repairApartWrong : ChangeSpec := { name := "repairApart", fn := fun _ => fun
  | [d] => { results := [.lit (.bool false)], args := [d] }
  | _ => none }
def RepairApartWrongFalsely : Prop := repairApartRow.holds Try.pinned (OpenSpec.ofChange repairApartWrong)

/-- 'stemmalaw19.RepairRight': WHATEVER THE INPUT: true; the input reads as it did. -/
def repairRightSpec : ChangeSpec := { name := "repairRight", fn := fun _ => fun
  | [d] => { results := [.lit (.bool true)], args := [d] }
  | _ => none }
def repairRightRow : OpenClaim := { program := "ytcdhndhgainadaa", sum := "a2b6a1703f8478f0befe0bea482f83447d9546bf0b5ea4de356e414ef2c0efea", func := "stemma/stemmalaw19.RepairRight", spec := "repairRight", unfollowed := true, recurses := true, loops := true, apart := false }
def RepairRightSaid : Prop := repairRightRow.holds Try.pinned (OpenSpec.ofChange repairRightSpec)

/-- ITS FALSE NEIGHBOUR: 'it returns false'. Refute it at one input. -/
def repairRightWrong : ChangeSpec := { name := "repairRight", fn := fun _ => fun
  | [d] => { results := [.lit (.bool false)], args := [d] }
  | _ => none }
def RepairRightWrongFalsely : Prop := repairRightRow.holds Try.pinned (OpenSpec.ofChange repairRightWrong)

/-- 'stemmalaw19.RepairStays': WHATEVER THE INPUT: true; the input reads as it did. -/
def repairStaysSpec : ChangeSpec := { name := "repairStays", fn := fun _ => fun
  | [d] => { results := [.lit (.bool true)], args := [d] }
  | _ => none }
def repairStaysRow : OpenClaim := { program := "ytcdhndhgainadaa", sum := "a2b6a1703f8478f0befe0bea482f83447d9546bf0b5ea4de356e414ef2c0efea", func := "stemma/stemmalaw19.RepairStays", spec := "repairStays", unfollowed := true, recurses := true, loops := true, apart := false }
def RepairStaysSaid : Prop := repairStaysRow.holds Try.pinned (OpenSpec.ofChange repairStaysSpec)

/-- ITS FALSE NEIGHBOUR: 'it returns false'. Refute it at one input. -/
def repairStaysWrong : ChangeSpec := { name := "repairStays", fn := fun _ => fun
  | [d] => { results := [.lit (.bool false)], args := [d] }
  | _ => none }
def RepairStaysWrongFalsely : Prop := repairStaysRow.holds Try.pinned (OpenSpec.ofChange repairStaysWrong)

/- THE SECOND FORM. 'bulk': how many values and letters a reading holds, each counted each time it is reached (what is shared counts as often as it is met; a slice's spare places count too). A statement '..UptoSaid' is the law's where the arguments, and the package variables that the reading takes, are together of bulk at most 1048576: NARROWER than '..Said'. Prove '..Said' where nothing that the law and all that it calls make is longer than what came in: it says more and counts as full. Else prove '..UptoSaid'. A law counts once. -/
mutual
def uptoBulk {H : Type} : DataW H → Nat
  | .lit (.string bytes) => bytes.length + 1
  | .lit _ => 1
  | .nil => 1
  | .ptr d => uptoBulk d + 1
  | .slice elems spare => uptoBulkAll elems + uptoBulkAll spare + 1
  | .agg parts => uptoBulkAll parts + 1
  | .iface _ d => uptoBulk d + 1
  | .map entries => uptoBulkEntries entries + 1
  | .held _ => 1
def uptoBulkAll {H : Type} : List (DataW H) → Nat
  | [] => 0
  | d :: r => uptoBulk d + uptoBulkAll r
def uptoBulkEntries {H : Type} : List (Lit × DataW H) → Nat
  | [] => 0
  | x :: r => uptoBulkEntry x + uptoBulkEntries r
def uptoBulkEntry {H : Type} : Lit × DataW H → Nat
  | (.string bytes, d) => bytes.length + uptoBulk d + 1
  | (_, d) => uptoBulk d + 1
 end
def uptoSmall : (H : Type) → List (DataW H) → Bool := fun _ ds => decide (uptoBulkAll ds ≤ 1048576)
def OpenSpec.upto (s : _root_.Go.ChangeSpec) : _root_.Go.OpenSpec := { _root_.Go.OpenSpec.ofChange s with cond := some uptoSmall }

/-- 'stemmalaw18.GrammarKinds', WHERE WHAT IT READS IS OF BULK AT MOST 1048576: true; the input reads as it did. -/
def grammarKindsUptoRow : OpenClaim := { program := "ytcdhndhgainadaa", sum := "a2b6a1703f8478f0befe0bea482f83447d9546bf0b5ea4de356e414ef2c0efea", func := "stemma/stemmalaw18.GrammarKinds", spec := "grammarKinds", recurses := true, apart := false, narrowed := true }
def GrammarKindsUptoSaid : Prop := grammarKindsUptoRow.holds Try.pinned (OpenSpec.upto grammarKindsSpec)

/-- 'stemmalaw18.GrammarTrees', WHERE WHAT IT READS IS OF BULK AT MOST 1048576: true; the input reads as it did. -/
def grammarTreesUptoRow : OpenClaim := { program := "ytcdhndhgainadaa", sum := "a2b6a1703f8478f0befe0bea482f83447d9546bf0b5ea4de356e414ef2c0efea", func := "stemma/stemmalaw18.GrammarTrees", spec := "grammarTrees", recurses := true, loops := true, apart := false, narrowed := true }
def GrammarTreesUptoSaid : Prop := grammarTreesUptoRow.holds Try.pinned (OpenSpec.upto grammarTreesSpec)

/-- 'stemmalaw18.GrammarWhole', WHERE WHAT IT READS IS OF BULK AT MOST 1048576: true; the input reads as it did. -/
def grammarWholeUptoRow : OpenClaim := { program := "ytcdhndhgainadaa", sum := "a2b6a1703f8478f0befe0bea482f83447d9546bf0b5ea4de356e414ef2c0efea", func := "stemma/stemmalaw18.GrammarWhole", spec := "grammarWhole", recurses := true, loops := true, apart := false, narrowed := true }
def GrammarWholeUptoSaid : Prop := grammarWholeUptoRow.holds Try.pinned (OpenSpec.upto grammarWholeSpec)

/-- 'stemmalaw18.GrammarKid', WHERE WHAT IT READS IS OF BULK AT MOST 1048576: true; the input reads as it did. -/
def grammarKidUptoRow : OpenClaim := { program := "ytcdhndhgainadaa", sum := "a2b6a1703f8478f0befe0bea482f83447d9546bf0b5ea4de356e414ef2c0efea", func := "stemma/stemmalaw18.GrammarKid", spec := "grammarKid", recurses := true, loops := true, apart := false, narrowed := true }
def GrammarKidUptoSaid : Prop := grammarKidUptoRow.holds Try.pinned (OpenSpec.upto grammarKidSpec)

/-- 'stemmalaw18.GrammarFirst', WHERE WHAT IT READS IS OF BULK AT MOST 1048576: true; the input reads as it did. -/
def grammarFirstUptoRow : OpenClaim := { program := "ytcdhndhgainadaa", sum := "a2b6a1703f8478f0befe0bea482f83447d9546bf0b5ea4de356e414ef2c0efea", func := "stemma/stemmalaw18.GrammarFirst", spec := "grammarFirst", recurses := true, loops := true, apart := false, narrowed := true }
def GrammarFirstUptoSaid : Prop := grammarFirstUptoRow.holds Try.pinned (OpenSpec.upto grammarFirstSpec)

/-- 'stemmalaw19.RepairMakes', WHERE WHAT IT READS IS OF BULK AT MOST 1048576: true; the input reads as it did. -/
def repairMakesUptoRow : OpenClaim := { program := "ytcdhndhgainadaa", sum := "a2b6a1703f8478f0befe0bea482f83447d9546bf0b5ea4de356e414ef2c0efea", func := "stemma/stemmalaw19.RepairMakes", spec := "repairMakes", unfollowed := true, recurses := true, loops := true, apart := false, narrowed := true }
def RepairMakesUptoSaid : Prop := repairMakesUptoRow.holds Try.pinned (OpenSpec.upto repairMakesSpec)

/-- 'stemmalaw19.RepairKeeps', WHERE WHAT IT READS IS OF BULK AT MOST 1048576: true; the input reads as it did. -/
def repairKeepsUptoRow : OpenClaim := { program := "ytcdhndhgainadaa", sum := "a2b6a1703f8478f0befe0bea482f83447d9546bf0b5ea4de356e414ef2c0efea", func := "stemma/stemmalaw19.RepairKeeps", spec := "repairKeeps", unfollowed := true, recurses := true, loops := true, apart := false, narrowed := true }
def RepairKeepsUptoSaid : Prop := repairKeepsUptoRow.holds Try.pinned (OpenSpec.upto repairKeepsSpec)

/-- 'stemmalaw19.RepairSmall', WHERE WHAT IT READS IS OF BULK AT MOST 1048576: true; the input reads as it did. -/
def repairSmallUptoRow : OpenClaim := { program := "ytcdhndhgainadaa", sum := "a2b6a1703f8478f0befe0bea482f83447d9546bf0b5ea4de356e414ef2c0efea", func := "stemma/stemmalaw19.RepairSmall", spec := "repairSmall", unfollowed := true, recurses := true, loops := true, apart := false, narrowed := true }
def RepairSmallUptoSaid : Prop := repairSmallUptoRow.holds Try.pinned (OpenSpec.upto repairSmallSpec)

/-- 'stemmalaw19.RepairApart', WHERE WHAT IT READS IS OF BULK AT MOST 1048576: true; the input reads as it did. -/
def repairApartUptoRow : OpenClaim := { program := "ytcdhndhgainadaa", sum := "a2b6a1703f8478f0befe0bea482f83447d9546bf0b5ea4de356e414ef2c0efea", func := "stemma/stemmalaw19.RepairApart", spec := "repairApart", unfollowed := true, recurses := true, loops := true, apart := false, narrowed := true }
def RepairApartUptoSaid : Prop := repairApartUptoRow.holds Try.pinned (OpenSpec.upto repairApartSpec)

/-- 'stemmalaw19.RepairRight', WHERE WHAT IT READS IS OF BULK AT MOST 1048576: true; the input reads as it did. -/
def repairRightUptoRow : OpenClaim := { program := "ytcdhndhgainadaa", sum := "a2b6a1703f8478f0befe0bea482f83447d9546bf0b5ea4de356e414ef2c0efea", func := "stemma/stemmalaw19.RepairRight", spec := "repairRight", unfollowed := true, recurses := true, loops := true, apart := false, narrowed := true }
def RepairRightUptoSaid : Prop := repairRightUptoRow.holds Try.pinned (OpenSpec.upto repairRightSpec)

/-- 'stemmalaw19.RepairStays', WHERE WHAT IT READS IS OF BULK AT MOST 1048576: true; the input reads as it did. -/
def repairStaysUptoRow : OpenClaim := { program := "ytcdhndhgainadaa", sum := "a2b6a1703f8478f0befe0bea482f83447d9546bf0b5ea4de356e414ef2c0efea", func := "stemma/stemmalaw19.RepairStays", spec := "repairStays", unfollowed := true, recurses := true, loops := true, apart := false, narrowed := true }
def RepairStaysUptoSaid : Prop := repairStaysUptoRow.holds Try.pinned (OpenSpec.upto repairStaysSpec)

end Rows
end Go.Proofs.Ytcdhndhgainadaa
