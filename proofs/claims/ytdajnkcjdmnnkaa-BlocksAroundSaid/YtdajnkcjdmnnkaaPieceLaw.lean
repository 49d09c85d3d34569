/-
  The pieces of a text, as a list: what has come after k elements, what is under way.
-/
import Derived.Test.YtdajnkcjdmnnkaaEl
namespace Go.Proofs.Ytdajnkcjdmnnkaa
open Go Go.RowKit

/-- the piece under way when k elements are over (its end not told) -/
def cur (l : List El) : Nat → Sp
  | 0 => ⟨0, 0, 0, 0⟩
  | k + 1 => match l[k]? with
    | some e => if bnd e then ⟨e.n, e.r, (k : Int) + 1, 0⟩ else cur l k
    | none => cur l k
/-- a piece with its end -/
def Sp.till (s : Sp) (k : Int) : Sp := ⟨s.n, s.r, s.f, k⟩
/-- the pieces that have come -/
def emi (l : List El) : Nat → List Sp
  | 0 => []
  | k + 1 => match l[k]? with
    | some e => if bnd e then emi l k ++ [(cur l k).till k] else emi l k
    | none => emi l k
def pieces (l : List El) : List Sp := emi l l.length ++ [(cur l l.length).till l.length]

theorem cur_hit {l : List El} {k : Nat} {e : El} (h : l[k]? = some e) (hb : bnd e = true) : cur l (k + 1) = ⟨e.n, e.r, (k : Int) + 1, 0⟩ := by simp [cur, h, hb]
theorem cur_miss {l : List El} {k : Nat} {e : El} (h : l[k]? = some e) (hb : bnd e = false) : cur l (k + 1) = cur l k := by simp [cur, h, hb]
theorem emi_hit {l : List El} {k : Nat} {e : El} (h : l[k]? = some e) (hb : bnd e = true) : emi l (k + 1) = emi l k ++ [(cur l k).till k] := by simp [emi, h, hb]
theorem emi_miss {l : List El} {k : Nat} {e : El} (h : l[k]? = some e) (hb : bnd e = false) : emi l (k + 1) = emi l k := by simp [emi, h, hb]
theorem cur_t (l : List El) : ∀ k, (cur l k).t = 0
  | 0 => rfl
  | k + 1 => by
    unfold cur
    split
    · split
      · rfl
      · exact cur_t l k
    · exact cur_t l k

theorem emi_prefix (l : List El) {k m : Nat} (h : k ≤ m) : emi l k <+: emi l m := by
  induction m with
  | zero => obtain rfl : k = 0 := by omega
            exact List.prefix_refl _
  | succ m ih =>
    rcases Nat.lt_or_ge m k with h1 | h1
    · obtain rfl : k = m + 1 := by omega
      exact List.prefix_refl _
    · refine (ih h1).trans ?_
      conv => rhs; unfold emi
      split
      · split
        · exact List.prefix_append _ _
        · exact List.prefix_refl _
      · exact List.prefix_refl _
theorem emi_pieces (l : List El) {k : Nat} (h : k ≤ l.length) : emi l k <+: pieces l := (emi_prefix l h).trans (List.prefix_append _ _)

/-- a boundary's turn: one piece more is told -/
theorem emi_next {l : List El} {k : Nat} {e : El} (h : l[k]? = some e) (hb : bnd e = true) : emi l k ++ [(cur l k).till k] <+: pieces l := by
  rw [← emi_hit h hb]
  refine emi_pieces l ?_
  rcases Nat.lt_or_ge k l.length with h1 | h1
  · exact h1
  · rw [List.getElem?_eq_none h1] at h; cases h
end Go.Proofs.Ytdajnkcjdmnnkaa
