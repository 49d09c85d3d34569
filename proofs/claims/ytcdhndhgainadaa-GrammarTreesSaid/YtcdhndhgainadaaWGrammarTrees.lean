/-
  THE WALK OF GrammarTrees.
-/
import Derived.Test.YtcdhndhgainadaaFaultJoin
import Derived.Test.YtcdhndhgainadaaTreesW
import Derived.Test.YtcdhndhgainadaaOpenD
namespace Go.Proofs.Ytcdhndhgainadaa.grammarTrees
open Go Go.RowKit

theorem walk (W : World) (v : List Value) (t : Tree) (hNd : Nd W W.heap.size v t) : Calls Try.prog 4 #[.agg v.toArray] W fun e w' => e = .returned (.bool true) ∧ Below W.heap.size W w' :=
  trees_walk (fun t => fault_all (tsz t + 1) t (Nat.lt_succ_self _)) (fun t => fine_all (tsz t + 1) t (Nat.lt_succ_self _)) W v t hNd
end Go.Proofs.Ytcdhndhgainadaa.grammarTrees
