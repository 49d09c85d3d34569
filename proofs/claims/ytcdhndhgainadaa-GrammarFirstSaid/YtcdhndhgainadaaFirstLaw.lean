/-
  Plain law of faults: where none is; whose 'root' is.
-/
import Derived.Test.YtcdhndhgainadaaTreeLaw
namespace Go.Proofs.Ytcdhndhgainadaa
open Go Go.RowKit

mutual
theorem fault_zero : ∀ (root : Bool) (p : Kd) (t : Tree), (faultT root p t).2.2 = .fine → faultT root p t = (0, 0, .fine)
  | root, p, .node n r k tn ks, h => by
    by_cases hw : wy root p (kd k) tn ks.length = .fine
    · rw [faultT_fine hw] at h ⊢
      exact faultL_zero (kd k) ks h
    · rw [faultT_amiss hw] at h
      exact absurd h hw
theorem faultL_zero : ∀ (p : Kd) (ks : List Tree), (faultL p ks).2.2 = .fine → faultL p ks = (0, 0, .fine)
  | p, [], h => by rw [faultL]
  | p, t :: ts, h => by
    by_cases ht : (faultT false p t).2.2 = .fine
    · rw [faultL, if_pos ht] at h ⊢
      exact faultL_zero p ts h
    · rw [faultL, if_neg ht] at h
      exact absurd h ht
end
theorem wy_false {p k : Kd} {tn m : Nat} : wy false p k tn m ≠ .root := by
  unfold wy
  intro h
  simp only [Bool.false_and, Bool.false_eq_true, ↓reduceIte] at h
  repeat' split at h
  all_goals cases h
mutual
theorem fault_no_root : ∀ (p : Kd) (t : Tree), (faultT false p t).2.2 ≠ .root
  | p, .node n r k tn ks => by
    by_cases hw : wy false p (kd k) tn ks.length = .fine
    · rw [faultT_fine hw]
      exact faultL_no_root (kd k) ks
    · rw [faultT_amiss hw]
      exact wy_false
theorem faultL_no_root : ∀ (p : Kd) (ks : List Tree), (faultL p ks).2.2 ≠ .root
  | p, [] => by rw [faultL]; intro h; cases h
  | p, t :: ts => by
    by_cases ht : (faultT false p t).2.2 = .fine
    · rw [faultL, if_pos ht]
      exact faultL_no_root p ts
    · rw [faultL, if_neg ht]
      exact fault_no_root p t
end
theorem fault_root {p : Kd} {n r : Int} {k : ByteArray} {tn : Nat} {ks : List Tree} (h : (faultT true p (.node n r k tn ks)).2.2 = .root) : (faultT true p (.node n r k tn ks)).1 = n ∧ (faultT true p (.node n r k tn ks)).2.1 = r := by
  by_cases hw : wy true p (kd k) tn ks.length = .fine
  · rw [faultT_fine hw] at h
    exact absurd h (faultL_no_root _ _)
  · rw [faultT_amiss hw]
    exact ⟨rfl, rfl⟩
end Go.Proofs.Ytcdhndhgainadaa
