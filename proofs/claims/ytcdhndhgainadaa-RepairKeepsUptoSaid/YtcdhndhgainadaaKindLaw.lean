/-
  The kinds (the document's chapter 18): plain law.
-/
import Derived.Test.YtcdhndhgainadaaKit
namespace Go.Proofs.Ytcdhndhgainadaa
open Go Go.RowKit

abbrev sPara : ByteArray := ⟨#[112, 97, 114, 97]⟩
abbrev sHead : ByteArray := ⟨#[104, 101, 97, 100]⟩
abbrev sQuote : ByteArray := ⟨#[113, 117, 111, 116, 101]⟩
abbrev sList : ByteArray := ⟨#[108, 105, 115, 116]⟩
abbrev sTable : ByteArray := ⟨#[116, 97, 98, 108, 101]⟩
abbrev sItem : ByteArray := ⟨#[105, 116, 101, 109]⟩
abbrev sRow : ByteArray := ⟨#[114, 111, 119]⟩
abbrev sCell : ByteArray := ⟨#[99, 101, 108, 108]⟩
abbrev sDoc : ByteArray := ⟨#[100, 111, 99]⟩
abbrev sFlow : ByteArray := ⟨#[102, 108, 111, 119]⟩
abbrev sNone : ByteArray := ⟨#[]⟩

/-- the kinds that there are -/
inductive Kd | para | head | quote | list | table | item | row | cell | doc | other
deriving DecidableEq
def kd (a : ByteArray) : Kd := if a = sPara then .para else if a = sHead then .head else if a = sQuote then .quote else if a = sList then .list else if a = sTable then .table else if a = sItem then .item else if a = sRow then .row else if a = sCell then .cell else if a = sDoc then .doc else .other

/-- each way a word can be -/
theorem kd_cases (a : ByteArray) : a = sPara ∨ a = sHead ∨ a = sQuote ∨ a = sList ∨ a = sTable ∨ a = sItem ∨ a = sRow ∨ a = sCell ∨ a = sDoc ∨
    (a ≠ sPara ∧ a ≠ sHead ∧ a ≠ sQuote ∧ a ≠ sList ∧ a ≠ sTable ∧ a ≠ sItem ∧ a ≠ sRow ∧ a ≠ sCell ∧ a ≠ sDoc) := by
  by_cases h1 : a = sPara
  · exact .inl h1
  by_cases h2 : a = sHead
  · exact .inr (.inl h2)
  by_cases h3 : a = sQuote
  · exact .inr (.inr (.inl h3))
  by_cases h4 : a = sList
  · exact .inr (.inr (.inr (.inl h4)))
  by_cases h5 : a = sTable
  · exact .inr (.inr (.inr (.inr (.inl h5))))
  by_cases h6 : a = sItem
  · exact .inr (.inr (.inr (.inr (.inr (.inl h6)))))
  by_cases h7 : a = sRow
  · exact .inr (.inr (.inr (.inr (.inr (.inr (.inl h7))))))
  by_cases h8 : a = sCell
  · exact .inr (.inr (.inr (.inr (.inr (.inr (.inr (.inl h8)))))))
  by_cases h9 : a = sDoc
  · exact .inr (.inr (.inr (.inr (.inr (.inr (.inr (.inr (.inl h9))))))))
  exact .inr (.inr (.inr (.inr (.inr (.inr (.inr (.inr (.inr ⟨h1, h2, h3, h4, h5, h6, h7, h8, h9⟩))))))))

theorem kd_other {a : ByteArray} (h : a ≠ sPara ∧ a ≠ sHead ∧ a ≠ sQuote ∧ a ≠ sList ∧ a ≠ sTable ∧ a ≠ sItem ∧ a ≠ sRow ∧ a ≠ sCell ∧ a ≠ sDoc) : kd a = .other := by
  obtain ⟨h1, h2, h3, h4, h5, h6, h7, h8, h9⟩ := h
  simp [kd, h1, h2, h3, h4, h5, h6, h7, h8, h9]

theorem beqs {a b : ByteArray} (h : a ≠ b) : (a.toList == b.toList) = false := by
  rw [ByteArray.toList_eq, ByteArray.toList_eq]
  simp only [beq_eq_false_iff_ne, ne_eq]
  intro e
  exact h (congrArg ByteArray.mk (Array.ext' e))

theorem beql {a : ByteArray} {l : List UInt8} (h : a ≠ ⟨l.toArray⟩) : (a.toList == l) = false := by
  rw [ByteArray.toList_eq]
  simp only [beq_eq_false_iff_ne, ne_eq]
  intro e
  exact h (congrArg ByteArray.mk (Array.ext' (by simpa using e)))

/-- what the walk wants of a word of no kind -/
structure Odd (a : ByteArray) : Prop where
  o1 : (a.toList == [112, 97, 114, 97]) = false
  o2 : (a.toList == [104, 101, 97, 100]) = false
  o3 : (a.toList == [113, 117, 111, 116, 101]) = false
  o4 : (a.toList == [108, 105, 115, 116]) = false
  o5 : (a.toList == [116, 97, 98, 108, 101]) = false
  o6 : (a.toList == [105, 116, 101, 109]) = false
  o7 : (a.toList == [114, 111, 119]) = false
  o8 : (a.toList == [99, 101, 108, 108]) = false
  o9 : (a.toList == [100, 111, 99]) = false
theorem odd_of {a : ByteArray} (h : a ≠ sPara ∧ a ≠ sHead ∧ a ≠ sQuote ∧ a ≠ sList ∧ a ≠ sTable ∧ a ≠ sItem ∧ a ≠ sRow ∧ a ≠ sCell ∧ a ≠ sDoc) : kd a = .other ∧ Odd a :=
  ⟨kd_other h, beql h.1, beql h.2.1, beql h.2.2.1, beql h.2.2.2.1, beql h.2.2.2.2.1, beql h.2.2.2.2.2.1, beql h.2.2.2.2.2.2.1, beql h.2.2.2.2.2.2.2.1, beql h.2.2.2.2.2.2.2.2⟩

theorem kdPara : kd sPara = .para := by decide
theorem kdHead : kd sHead = .head := by decide
theorem kdQuote : kd sQuote = .quote := by decide
theorem kdList : kd sList = .list := by decide
theorem kdTable : kd sTable = .table := by decide
theorem kdItem : kd sItem = .item := by decide
theorem kdRow : kd sRow = .row := by decide
theorem kdCell : kd sCell = .cell := by decide
theorem kdDoc : kd sDoc = .doc := by decide

def Kd.flow : Kd → Bool | .para | .head | .quote | .list | .table => true | _ => false
def Kd.known : Kd → Bool | .other => false | _ => true
def Kd.holds : Kd → Bool | .para | .head | .item | .cell => true | _ => false
def Kd.needs : Kd → Bool | .quote | .list | .table | .row => true | _ => false
def Kd.allows : Kd → Kd → Bool
  | .doc, k | .quote, k | .item, k | .cell, k => k.flow
  | .list, k => k == .item
  | .table, k => k == .row
  | .row, k => k == .cell
  | _, _ => false
/-- what a class has under it -/
def Kd.under : Kd → ByteArray
  | .para | .head | .other => sNone
  | .list => sItem
  | .table => sRow
  | .row => sCell
  | _ => sFlow
end Go.Proofs.Ytcdhndhgainadaa
