/-
  What the pieces of a text are, plainly: they follow one another, each behind its boundary; the last ends where the text ends; one more than boundaries.
-/
import Derived.Test.YtdajnkcjdmnnkaaTextF
namespace Go.Proofs.Ytdajnkcjdmnnkaa
open Go Go.RowKit

/-- what lies behind one another: 's ends at a boundary, at which s' begins' -/
def Next (l : List El) (s s' : Sp) : Prop := ∃ (t : Nat) (e : El), s.t = t ∧ l[t]? = some e ∧ bnd e = true ∧ s'.n = e.n ∧ s'.r = e.r ∧ s'.f = (t : Int) + 1
def Within (k : Nat) (s : Sp) : Prop := ∃ f t : Nat, s.f = f ∧ s.t = t ∧ f ≤ t ∧ t ≤ k

structure Inv (l : List El) (k : Nat) : Prop where
  cf : ∃ f : Nat, (cur l k).f = f ∧ f ≤ k
  rng : ∀ s ∈ emi l k, Within k s
  first : ∀ s, (emi l k ++ [(cur l k).till k])[0]? = some s → s.f = 0 ∧ s.n = 0 ∧ s.r = 0
  step : ∀ i s s', (emi l k ++ [(cur l k).till k])[i]? = some s → (emi l k ++ [(cur l k).till k])[i + 1]? = some s' → Next l s s'
  len : (emi l k).length = (l.take k).countP bnd

theorem getElem?_snoc {α : Type} (a : List α) (x : α) (i : Nat) (y : α) (h : (a ++ [x])[i]? = some y) : (i < a.length ∧ a[i]? = some y) ∨ (i = a.length ∧ y = x) := by
  rcases Nat.lt_trichotomy i a.length with h1 | h1 | h1
  · rw [List.getElem?_append_left h1] at h; exact .inl ⟨h1, h⟩
  · subst h1; simp at h; exact .inr ⟨rfl, h.symm⟩
  · rw [List.getElem?_eq_none (by simp; omega)] at h; cases h

theorem inv_at (l : List El) : ∀ k, k ≤ l.length → Inv l k
  | 0, _ => by
    refine ⟨⟨0, rfl, Nat.le_refl _⟩, by simp [emi], ?_, ?_, by simp [emi]⟩
    · intro s h
      simp [emi, cur, Sp.till] at h
      subst h; exact ⟨rfl, rfl, rfl⟩
    · intro i s s' _ h
      simp [emi] at h
  | k + 1, hk => by
    have ih := inv_at l k (by omega)
    obtain ⟨e, he⟩ : ∃ e, l[k]? = some e := ⟨l[k]'(by omega), List.getElem?_eq_getElem _⟩
    have hcount : (l.take (k + 1)).countP bnd = (l.take k).countP bnd + (if bnd e then 1 else 0) := by
      rw [take_one he, List.countP_append]; simp [List.countP_cons]
    cases hb : bnd e with
    | true =>
      obtain ⟨f, hf1, hf2⟩ := ih.cf
      rw [hb] at hcount
      have e1 := emi_hit he hb
      have e2 := cur_hit he hb
      refine ⟨⟨k + 1, by rw [e2]; simp, Nat.le_refl _⟩, ?_, ?_, ?_, ?_⟩
      · rw [e1]
        intro s hs
        rcases List.mem_append.1 hs with h | h
        · obtain ⟨f, t, a, b, c, d⟩ := ih.rng s h
          exact ⟨f, t, a, b, c, by omega⟩
        · simp at h
          subst h
          exact ⟨f, k, hf1, rfl, hf2, by omega⟩
      · rw [e1, e2]
        intro s h
        refine ih.first s ?_
        rcases getElem?_snoc _ _ _ _ h with ⟨_, h1⟩ | ⟨h1, _⟩
        · exact h1
        · simp at h1
      · rw [e1, e2]
        intro i s s' h h'
        rcases getElem?_snoc _ _ _ _ h with ⟨h0, h1⟩ | ⟨h1, h2⟩
        · rcases getElem?_snoc _ _ _ _ h' with ⟨_, h3⟩ | ⟨h3, h4⟩
          · exact ih.step i s s' h1 h3
          · subst h4
            have hi : i = (emi l k).length := by simp at h3; omega
            subst hi
            simp at h1
            subst h1
            exact ⟨k, e, rfl, he, hb, rfl, rfl, by simp [Sp.till]⟩
        · rcases getElem?_snoc _ _ _ _ h' with ⟨h3, _⟩ | ⟨h3, _⟩ <;> omega
      · rw [e1, hcount, List.length_append, ih.len]; simp
    | false =>
      rw [hb] at hcount
      have e1 := emi_miss he hb
      have e2 := cur_miss he hb
      refine ⟨?_, ?_, ?_, ?_, ?_⟩
      · rw [e2]; obtain ⟨f, a, b⟩ := ih.cf; exact ⟨f, a, by omega⟩
      · rw [e1]
        intro s hs
        obtain ⟨f, t, a, b, c, d⟩ := ih.rng s hs
        exact ⟨f, t, a, b, c, by omega⟩
      · rw [e1, e2]
        intro s h
        rcases getElem?_snoc _ _ _ _ h with ⟨h0, h1⟩ | ⟨h1, h2⟩
        · exact ih.first s (by rw [List.getElem?_append_left h0]; exact h1)
        · subst h2
          exact ih.first ((cur l k).till k) (by rw [h1]; simp)
      · rw [e1, e2]
        intro i s s' h h'
        rcases getElem?_snoc _ _ _ _ h with ⟨h0, h1⟩ | ⟨h1, h2⟩
        · have g1 : (emi l k ++ [(cur l k).till k])[i]? = some s := by rw [List.getElem?_append_left h0]; exact h1
          rcases getElem?_snoc _ _ _ _ h' with ⟨h3, h4⟩ | ⟨h3, h4⟩
          · exact ih.step i s s' g1 (by rw [List.getElem?_append_left h3]; exact h4)
          · subst h4
            obtain ⟨t, e, a, b, c, d, f, g⟩ := ih.step i s ((cur l k).till k) g1 (by rw [h3]; simp)
            exact ⟨t, e, a, b, c, d, f, g⟩
        · rcases getElem?_snoc _ _ _ _ h' with ⟨h3, _⟩ | ⟨h3, _⟩ <;> omega
      · rw [e1, hcount, ih.len]; simp

/-! the pieces of the whole -/
theorem pieces_first {l : List El} {s : Sp} (h : (pieces l)[0]? = some s) : s.f = 0 ∧ s.n = 0 ∧ s.r = 0 := (inv_at l l.length (Nat.le_refl _)).first s h
theorem pieces_step {l : List El} {i : Nat} {s s' : Sp} (h : (pieces l)[i]? = some s) (h' : (pieces l)[i + 1]? = some s') : Next l s s' := (inv_at l l.length (Nat.le_refl _)).step i s s' h h'
theorem pieces_in {l : List El} {s : Sp} (h : s ∈ pieces l) : Within l.length s := by
  rcases List.mem_append.1 h with h1 | h1
  · exact (inv_at l l.length (Nat.le_refl _)).rng s h1
  · simp at h1
    subst h1
    obtain ⟨f, a, b⟩ := (inv_at l l.length (Nat.le_refl _)).cf
    exact ⟨f, l.length, a, rfl, b, Nat.le_refl _⟩
theorem pieces_count (l : List El) : (pieces l).length = l.countP bnd + 1 := by
  have := (inv_at l l.length (Nat.le_refl _)).len
  rw [List.take_length] at this
  simp [pieces, this]
theorem pieces_last {l : List El} {s : Sp} (h : (pieces l)[(pieces l).length - 1]? = some s) : s.t = l.length := by
  have : (pieces l).length - 1 = (emi l l.length).length := by simp [pieces]
  rw [this] at h
  unfold pieces at h
  simp at h
  subst h
  rfl

/-- a piece's text goes on from all that is ahead of it -/
theorem text_piece {l : List El} {f t : Nat} (h : f ≤ t) (ht : t ≤ l.length) : txtOf (l.take t) = txtOf (l.take f) ++ text l f t := by
  unfold text
  rw [if_neg (by omega), ← txtOf_append]
  congr 1
  have e1 : ((f : Int)).toNat = f := by simp
  have e2 : ((t : Int) - (f : Int)).toNat = t - f := by omega
  rw [e1, e2]
  have e3 : t = f + (t - f) := by omega
  conv => lhs; rw [e3, List.take_add]
theorem bnd_not_vis {e : El} (h : bnd e = true) : vis e = false := by
  simp only [bnd, Bool.and_eq_true, decide_eq_true_eq] at h
  simp [vis, h.1]
theorem bnd_parts {e : El} (h : bnd e = true) : e.ch = 0 ∧ e.gone = false := by
  simp only [bnd, Bool.and_eq_true, decide_eq_true_eq, Bool.not_eq_true'] at h
  exact h
theorem txt_all (l : List El) : txtOf (l.take l.length) = txtOf l := by rw [List.take_length]
end Go.Proofs.Ytdajnkcjdmnnkaa
