/-
  The contracts of the document's fault and fine, joined from their five cases.
-/
import Derived.Test.YtcdhndhgainadaaFaultT
import Derived.Test.YtcdhndhgainadaaFaultPN
import Derived.Test.YtcdhndhgainadaaFaultPY
import Derived.Test.YtcdhndhgainadaaFaultZN
import Derived.Test.YtcdhndhgainadaaFaultZY
import Derived.Test.YtcdhndhgainadaaFineT
import Derived.Test.YtcdhndhgainadaaFinePN
import Derived.Test.YtcdhndhgainadaaFinePY
import Derived.Test.YtcdhndhgainadaaFineZN
import Derived.Test.YtcdhndhgainadaaFineZY
namespace Go.Proofs.Ytcdhndhgainadaa
open Go Go.RowKit

theorem fault_all : ∀ (N : Nat) (t : Tree), tsz t < N → FaultAll t := by
  intro N
  induction N with
  | zero => intro t h; omega
  | succ N ih =>
    intro t hN v p root B w hNd hB
    obtain ⟨n, r, k, tn, ks⟩ := t
    have hk : ∀ (i : Nat) u, ks[i]? = some u → FaultAll u := fun i u hu => ih u (by have := tree_size (n := n) (r := r) (k := k) (tn := tn) hu; omega)
    cases root with
    | true => exact fault_anyT n r k tn ks hk v p true rfl B w hNd hB
    | false =>
      by_cases ht : 0 < tn
      · cases hn : (kd k).needs with
        | false => exact fault_anyPN n r k tn ks hk v p false ⟨rfl, ht, hn⟩ B w hNd hB
        | true => exact fault_anyPY n r k tn ks hk v p false ⟨rfl, ht, hn⟩ B w hNd hB
      · cases hn : (kd k).needs with
        | false => exact fault_anyZN n r k tn ks hk v p false ⟨rfl, ht, hn⟩ B w hNd hB
        | true => exact fault_anyZY n r k tn ks hk v p false ⟨rfl, ht, hn⟩ B w hNd hB
theorem fine_all : ∀ (N : Nat) (t : Tree), tsz t < N → FineAll t := by
  intro N
  induction N with
  | zero => intro t h; omega
  | succ N ih =>
    intro t hN v p root B w hNd hB
    obtain ⟨n, r, k, tn, ks⟩ := t
    have hk : ∀ (i : Nat) u, ks[i]? = some u → FineAll u := fun i u hu => ih u (by have := tree_size (n := n) (r := r) (k := k) (tn := tn) hu; omega)
    cases root with
    | true => exact fine_anyT n r k tn ks hk v p true rfl B w hNd hB
    | false =>
      by_cases ht : 0 < tn
      · cases hn : (kd k).needs with
        | false => exact fine_anyPN n r k tn ks hk v p false ⟨rfl, ht, hn⟩ B w hNd hB
        | true => exact fine_anyPY n r k tn ks hk v p false ⟨rfl, ht, hn⟩ B w hNd hB
      · cases hn : (kd k).needs with
        | false => exact fine_anyZN n r k tn ks hk v p false ⟨rfl, ht, hn⟩ B w hNd hB
        | true => exact fine_anyZY n r k tn ks hk v p false ⟨rfl, ht, hn⟩ B w hNd hB
end Go.Proofs.Ytcdhndhgainadaa
