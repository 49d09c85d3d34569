/-
  What is shown of the document's fault and fine, of a tree; what holds at the head of a round.
-/
import Derived.Test.YtcdhndhgainadaaFirstF
import Derived.Deep.RegionWith
namespace Go.Proofs.Ytcdhndhgainadaa
open Go Go.RowKit

def FaultAll (t : Tree) : Prop := ∀ (v : List Value) (p : ByteArray) (root : Bool) (B : Nat) (w : World), Nd w B v t → B ≤ w.heap.size →
    Calls Try.prog 37 #[.agg v.toArray, .string p, .bool root] w fun e w' => e = .returned (fltV (faultT root (kd p) t)) ∧ Below w.heap.size w w'
def FineAll (t : Tree) : Prop := ∀ (v : List Value) (p : ByteArray) (root : Bool) (B : Nat) (w : World), Nd w B v t → B ≤ w.heap.size →
    Calls Try.prog 38 #[.agg v.toArray, .string p, .bool root] w fun e w' => e = .returned (.bool (decide ((faultT root (kd p) t).2.2 = .fine))) ∧ Below w.heap.size w w'

/-- what holds at the head of a round of fine -/
structure GAt (w : World) (vs : Array Value) (p : Kd) (ks : List Tree) (j : Nat) (wr : World) : Prop where
  below : Below w.heap.size w wr
  node : BoxN wr w.heap.size vs 31
  clean : CleanTo p ks j

theorem BoxN.far {w : World} {b : Nat} {vs : Array Value} {t : TypeId} (h : BoxN w b vs t) {p : Addr} (hp : b ≠ p.block) (u : Value) : BoxN (w.setCell p u) b vs t := (Below.heap_setCell _ _ _ _ hp).trans h
end Go.Proofs.Ytcdhndhgainadaa
