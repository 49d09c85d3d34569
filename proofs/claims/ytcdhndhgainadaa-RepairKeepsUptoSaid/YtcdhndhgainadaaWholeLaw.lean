/-
  Plain law: what is right of a tree is right of its kids.
-/
import Derived.Test.YtcdhndhgainadaaRightF
namespace Go.Proofs.Ytcdhndhgainadaa
open Go Go.RowKit

theorem faultL_all : ∀ {p : Kd} {ks : List Tree}, (faultL p ks).2.2 = .fine → ∀ (j : Nat) u, ks[j]? = some u → (faultT false p u).2.2 = .fine
  | p, [], _, j, u, h => by simp at h
  | p, t :: ts, hf, j, u, h => by
    by_cases ht : (faultT false p t).2.2 = .fine
    · rw [faultL, if_pos ht] at hf
      cases j with
      | zero => simp at h; subst h; exact ht
      | succ j => exact faultL_all hf j u (by simpa using h)
    · rw [faultL, if_neg ht] at hf
      exact absurd hf ht
theorem wy_doc {p k : Kd} {tn m : Nat} (h : wy true p k tn m = .fine) : k = .doc := by
  unfold wy at h
  by_cases hk : k = .doc
  · exact hk
  · simp [hk] at h
theorem right_kids {n r : Int} {k : ByteArray} {tn : Nat} {ks : List Tree} (h : rightT (.node n r k tn ks) = true) : kd k = .doc ∧ ∀ (j : Nat) u, ks[j]? = some u → (faultT false .doc u).2.2 = .fine := by
  simp only [rightT, decide_eq_true_eq] at h
  by_cases hw : wy true .other (kd k) tn ks.length = .fine
  · have hd := wy_doc hw
    rw [faultT_fine hw, hd] at h
    exact ⟨hd, faultL_all h⟩
  · rw [faultT_amiss hw] at h
    exact absurd h hw
theorem allows_of_fine {p : Kd} {n r : Int} {k : ByteArray} {tn : Nat} {ks : List Tree} (h : (faultT false p (.node n r k tn ks)).2.2 = .fine) : p.allows (kd k) = true := by
  by_cases hw : wy false p (kd k) tn ks.length = .fine
  · unfold wy at hw
    cases ha : p.allows (kd k) with
    | true => rfl
    | false =>
      rw [ha] at hw
      simp only [Bool.false_and, Bool.false_eq_true, ↓reduceIte, Bool.not_false, Bool.and_self] at hw
      split at hw <;> cases hw
  · rw [faultT_amiss hw] at h
    exact absurd h hw
/-- a tree alone under the root -/
theorem right_alone (u : Tree) : rightT (.node 0 0 sDoc 0 [u]) = decide ((faultT false .doc u).2.2 = .fine) := by
  have hw : wy true .other (kd sDoc) 0 [u].length = .fine := by rw [kdDoc]; rfl
  unfold rightT
  rw [faultT_fine hw, kdDoc, faultL, faultL]
  by_cases h : (faultT false .doc u).2.2 = .fine
  · rw [if_pos h]; simp [h]
  · rw [if_neg h]
theorem Nd.six' {w : World} {B : Nat} {v : List Value} {n r : Int} {k : ByteArray} {tn : Nat} {ks : List Tree} (h : Nd w B v (.node n r k tn ks)) : ∃ (AA : Option Addr) (an ac : Nat) (TA : Option Addr) (tc : Nat) (A : Option Addr) (m c : Nat),
    v = [.int .i64 n, .int .i64 r, .string k, .slice AA an ac, .slice TA tn tc, .slice A m c] := by
  cases h
  exact ⟨_, _, _, _, _, _, _, _, rfl⟩
end Go.Proofs.Ytcdhndhgainadaa
