/-
  Plain law: one more kid under the root.
-/
import Derived.Test.YtcdhndhgainadaaWholeLaw
namespace Go.Proofs.Ytcdhndhgainadaa
open Go Go.RowKit

theorem faultL_snoc : ∀ {p : Kd} {ks : List Tree} (u : Tree), (faultL p ks).2.2 = .fine → faultL p (ks ++ [u]) = faultL p [u]
  | p, [], u, _ => rfl
  | p, t :: ts, u, h => by
    by_cases ht : (faultT false p t).2.2 = .fine
    · rw [faultL, if_pos ht] at h
      rw [List.cons_append, faultL, if_pos ht]
      exact faultL_snoc u h
    · rw [faultL, if_neg ht] at h
      exact absurd h ht
theorem wy_doc_any (tn m m' : Nat) : wy true .other .doc tn m = wy true .other .doc tn m' := by
  simp [wy, Kd.needs]
theorem right_snoc {n r : Int} {k : ByteArray} {tn : Nat} {ks : List Tree} (h : rightT (.node n r k tn ks) = true) (u : Tree) : rightT (.node n r k tn (ks ++ [u])) = rightT (.node 0 0 sDoc 0 [u]) := by
  have hd := (right_kids h).1
  simp only [rightT, decide_eq_true_eq] at h
  by_cases hw : wy true .other (kd k) tn ks.length = .fine
  · rw [faultT_fine hw, hd] at h
    rw [hd] at hw
    have hw2 : wy true .other (kd k) tn (ks ++ [u]).length = .fine := by rw [hd, wy_doc_any tn _ ks.length]; exact hw
    rw [right_alone]
    unfold rightT
    rw [faultT_fine hw2, hd, faultL_snoc u h, faultL, faultL]
    by_cases hu : (faultT false .doc u).2.2 = .fine
    · rw [if_pos hu]; simp [hu]
    · rw [if_neg hu]
  · rw [faultT_amiss hw] at h
    exact absurd h hw
end Go.Proofs.Ytcdhndhgainadaa
