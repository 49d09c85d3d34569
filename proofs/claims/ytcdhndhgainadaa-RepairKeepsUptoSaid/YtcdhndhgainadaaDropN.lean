/-
  Where a cut begins; small words for draws.
-/
import Derived.Test.YtcdhndhgainadaaKit
import Derived.Deep.Draws
namespace Go.Proofs.Ytcdhndhgainadaa
open Go Go.RowKit

/-- where a cut begins: the model's own word; elements of sz cells -/
theorem Rd.dropN {w : World} {B sz n : Nat} {A : Option Addr} {xs : List Value} {k c : Nat} (h : Rd w B sz A n xs) (hk : k ≤ n) (hc : n ≤ c) :
    Rd w B sz (if c = k then A else A.map (·.add (k * sz))) (n - k) (xs.drop (k * sz)) := by
  refine ⟨by rw [List.length_drop, h.1, Nat.sub_mul], ?_⟩
  rcases Nat.eq_zero_or_pos (n - k) with h0 | h0
  · exact .inl h0
  · obtain ⟨b, off, e, hb, hcell⟩ := h.at_ (by omega)
    refine .inr ⟨b, off + k * sz, ?_, hb, fun j u hu => ?_⟩
    · rw [if_neg (by omega), e]; simp [addr_add]
    · rw [Nat.add_assoc]
      exact hcell (k * sz + j) u (by rw [← hu, List.getElem?_drop])
theorem below_draws {B : Nat} {W w : World} (h : Below B W w) (nq : Nat) : Below B W (w.drewN nq) := ⟨h.os, h.tape, h.output, h.size, h.block⟩
theorem own_cap {w : World} {base n c size : Nat} {e : TypeId} {A : Option Addr} {xs : List Value} (h : w.ownsRow base e size (.slice A n c) n xs) : n ≤ c ∧ c ≤ maxLen := by
  obtain ⟨A', c', hv, h1, h2⟩ := own_slice h
  injection hv with _ _ hc
  subst hc
  exact ⟨h1, h2⟩
theorem own_addr {w : World} {base n c size : Nat} {e : TypeId} {A : Option Addr} {xs : List Value} (h : w.ownsRow base e size (.slice A n c) n xs) (hn : 0 < n) : ∃ g, A = some ⟨g, 0, none⟩ ∧ base ≤ g ∧ g < w.heap.size := by
  obtain ⟨g, c', hv, h1, h2⟩ := h.form hn
  injection hv with hA
  exact ⟨g, hA, h1, h2⟩
end Go.Proofs.Ytcdhndhgainadaa
