/-
  One element more in a text: what its pieces become.
-/
import Derived.Test.YtdajnkcjdmnnkaaAllLaw
namespace Go.Proofs.Ytdajnkcjdmnnkaa
open Go Go.RowKit

def Sp.shift (s : Sp) : Sp := ⟨s.n, s.r, s.f + 1, s.t + 1⟩
/-- l with x put in at a place -/
def puts (l : List El) (a : Nat) (x : El) : List El := l.take a ++ x :: l.drop a

theorem puts_len {l : List El} {a : Nat} {x : El} (h : a ≤ l.length) : (puts l a x).length = l.length + 1 := by
  simp [puts]; omega
theorem puts_low {l : List El} {a j : Nat} {x : El} (h : a ≤ l.length) (hj : j < a) : (puts l a x)[j]? = l[j]? := by
  unfold puts
  rw [List.getElem?_append_left (by simp; omega), List.getElem?_take, if_pos hj]
theorem puts_mid {l : List El} {a : Nat} {x : El} (h : a ≤ l.length) : (puts l a x)[a]? = some x := by
  unfold puts
  rw [List.getElem?_append_right (by simp; omega)]
  have : a - (l.take a).length = 0 := by simp; omega
  rw [this]; rfl
theorem puts_high {l : List El} {a j : Nat} {x : El} (h : a ≤ l.length) (hj : a ≤ j) : (puts l a x)[j + 1]? = l[j]? := by
  unfold puts
  rw [List.getElem?_append_right (by simp; omega)]
  have : j + 1 - (l.take a).length = (j - a) + 1 := by simp; omega
  rw [this, List.getElem?_cons_succ, List.getElem?_drop]
  congr 1; omega
theorem puts_take {l : List El} {a j : Nat} {x : El} (h : a ≤ l.length) (hj : j ≤ a) : (puts l a x).take j = l.take j := by
  unfold puts
  rw [List.take_append_of_le_length (by simp; omega), List.take_take]
  congr 1; omega
theorem puts_drop {l : List El} {a j : Nat} {x : El} (h : a ≤ l.length) (hj : a ≤ j) : (puts l a x).drop (j + 1) = l.drop j := by
  unfold puts
  have e : (l.take a).length = a := by simp; omega
  rw [List.drop_append, List.drop_of_length_le (by omega), List.nil_append, e]
  have : j + 1 - a = (j - a) + 1 := by omega
  rw [this, List.drop_succ_cons, List.drop_drop]
  congr 1; omega

theorem low_same {l : List El} {a : Nat} {x : El} (h : a ≤ l.length) : ∀ j, j ≤ a → emi (puts l a x) j = emi l j ∧ cur (puts l a x) j = cur l j
  | 0, _ => ⟨rfl, rfl⟩
  | j + 1, hj => by
    obtain ⟨h1, h2⟩ := low_same (x := x) h j (by omega)
    have hl := puts_low (x := x) h (show j < a by omega)
    obtain ⟨e, he⟩ : ∃ e, l[j]? = some e := ⟨l[j]'(by omega), List.getElem?_eq_getElem _⟩
    rw [he] at hl
    cases hb : bnd e with
    | true => rw [emi_hit hl hb, emi_hit he hb, cur_hit hl hb, cur_hit he hb, h1, h2]; exact ⟨rfl, rfl⟩
    | false => rw [emi_miss hl hb, emi_miss he hb, cur_miss hl hb, cur_miss he hb, h1, h2]; exact ⟨rfl, rfl⟩

theorem emi_strict (l : List El) : ∀ k, k ≤ l.length → ∀ s ∈ emi l k, s.t < (k : Int)
  | 0, _, s, h => by simp [emi] at h
  | k + 1, hk, s, h => by
    obtain ⟨e, he⟩ : ∃ e, l[k]? = some e := ⟨l[k]'(by omega), List.getElem?_eq_getElem _⟩
    cases hb : bnd e with
    | true =>
      rw [emi_hit he hb] at h
      rcases List.mem_append.1 h with h1 | h1
      · have := emi_strict l k (by omega) s h1; omega
      · simp at h1; subst h1; simp [Sp.till]; omega
    | false =>
      rw [emi_miss he hb] at h
      have := emi_strict l k (by omega) s h; omega

/-- what has come of both when j elements are over, from the place on -/
inductive Both (l : List El) (a : Nat) (x : El) (j : Nat) : Prop
  | still (h1 : emi l j = emi l a) (h2 : cur l j = cur l a)
      (h3 : bnd x = true → emi (puts l a x) (j + 1) = emi l a ++ [(cur l a).till a] ∧ cur (puts l a x) (j + 1) = ⟨x.n, x.r, (a : Int) + 1, 0⟩)
      (h4 : bnd x = false → emi (puts l a x) (j + 1) = emi l a ∧ cur (puts l a x) (j + 1) = cur l a)
  | past (t : Nat) (Y : List Sp) (ht : a ≤ t) (htj : t < j) (h1 : emi l j = emi l a ++ (cur l a).till t :: Y) (hY : ∀ s ∈ Y, (a : Int) ≤ s.f) (hc : (a : Int) ≤ (cur l j).f)
      (h3 : bnd x = true → emi (puts l a x) (j + 1) = emi l a ++ (cur l a).till a :: ⟨x.n, x.r, (a : Int) + 1, (t : Int) + 1⟩ :: Y.map Sp.shift)
      (h4 : bnd x = false → emi (puts l a x) (j + 1) = emi l a ++ (cur l a).till ((t : Int) + 1) :: Y.map Sp.shift)
      (h5 : cur (puts l a x) (j + 1) = ⟨(cur l j).n, (cur l j).r, (cur l j).f + 1, 0⟩)

theorem both_at {l : List El} {a : Nat} (x : El) (h : a ≤ l.length) : ∀ d, a + d ≤ l.length → Both l a x (a + d)
  | 0, _ => by
    obtain ⟨h1, h2⟩ := low_same (x := x) h a (Nat.le_refl _)
    refine .still rfl rfl ?_ ?_
    · intro hb
      rw [Nat.add_zero, emi_hit (puts_mid h) hb, cur_hit (puts_mid h) hb, h1, h2]
      exact ⟨rfl, rfl⟩
    · intro hb
      rw [Nat.add_zero, emi_miss (puts_mid h) hb, cur_miss (puts_mid h) hb, h1, h2]
      exact ⟨rfl, rfl⟩
  | d + 1, hd => by
    have ih := both_at x h d (by omega)
    obtain ⟨e, he⟩ : ∃ e, l[a + d]? = some e := ⟨l[a + d]'(by omega), List.getElem?_eq_getElem _⟩
    have hp : (puts l a x)[a + d + 1]? = some e := by rw [puts_high h (by omega)]; exact he
    show Both l a x (a + d + 1)
    cases hb : bnd e with
    | true =>
      cases ih with
      | still h1 h2 h3 h4 =>
        refine .past (a + d) [] (by omega) (by omega) ?_ (by simp) ?_ ?_ ?_ ?_
        · rw [emi_hit he hb, h1, h2]
        · rw [cur_hit he hb]; simp; omega
        · intro hx
          obtain ⟨g1, g2⟩ := h3 hx
          rw [emi_hit hp hb, g1, g2]
          simp [Sp.till]
        · intro hx
          obtain ⟨g1, g2⟩ := h4 hx
          rw [emi_hit hp hb, g1, g2]
          simp [Sp.till]
        · rw [cur_hit hp hb, cur_hit he hb]; simp
      | past t Y ht htj h1 hY hc h3 h4 h5 =>
        refine .past t (Y ++ [(cur l (a + d)).till (a + d : Nat)]) ht (by omega) ?_ ?_ ?_ ?_ ?_ ?_
        · rw [emi_hit he hb, h1]; simp
        · intro s hs
          rcases List.mem_append.1 hs with h | h
          · exact hY s h
          · simp at h; subst h; exact hc
        · rw [cur_hit he hb]; simp; omega
        · intro hx
          rw [emi_hit hp hb, h3 hx, h5]
          simp [Sp.shift, Sp.till]
        · intro hx
          rw [emi_hit hp hb, h4 hx, h5]
          simp [Sp.shift, Sp.till]
        · rw [cur_hit hp hb, cur_hit he hb]; simp
    | false =>
      cases ih with
      | still h1 h2 h3 h4 =>
        refine .still ?_ ?_ ?_ ?_
        · rw [emi_miss he hb, h1]
        · rw [cur_miss he hb, h2]
        · intro hx
          rw [emi_miss hp hb, cur_miss hp hb]; exact h3 hx
        · intro hx
          rw [emi_miss hp hb, cur_miss hp hb]; exact h4 hx
      | past t Y ht htj h1 hY hc h3 h4 h5 =>
        refine .past t Y ht (by omega) ?_ hY ?_ ?_ ?_ ?_
        · rw [emi_miss he hb]; exact h1
        · rw [cur_miss he hb]; exact hc
        · intro hx; rw [emi_miss hp hb]; exact h3 hx
        · intro hx; rw [emi_miss hp hb]; exact h4 hx
        · rw [cur_miss hp hb, cur_miss he hb]; exact h5

/-- THE PIECES OF BOTH. E: those ahead; c: the one that the place stands in (its end: t); Y: those behind. -/
structure Split (l : List El) (a : Nat) (x : El) (E : List Sp) (c : Sp) (t : Nat) (Y : List Sp) : Prop where
  at_ : a ≤ t
  tl : t ≤ l.length
  cf : ∃ f : Nat, c.f = f ∧ f ≤ a
  one : pieces l = E ++ c.till t :: Y
  two : bnd x = true → pieces (puts l a x) = E ++ c.till a :: ⟨x.n, x.r, (a : Int) + 1, (t : Int) + 1⟩ :: Y.map Sp.shift
  same : bnd x = false → pieces (puts l a x) = E ++ c.till ((t : Int) + 1) :: Y.map Sp.shift
  low : ∀ s ∈ E, ∃ f u : Nat, s.f = f ∧ s.t = u ∧ f ≤ u ∧ u < a
  high : ∀ s ∈ Y, ∃ f u : Nat, s.f = f ∧ s.t = u ∧ a ≤ f ∧ f ≤ u ∧ u ≤ l.length

theorem split_pieces {l : List El} {a : Nat} (x : El) (h : a ≤ l.length) : ∃ t Y, Split l a x (emi l a) (cur l a) t Y := by
  have hb := both_at x h (l.length - a) (by omega)
  have e : a + (l.length - a) = l.length := by omega
  rw [e] at hb
  have hlen : ((puts l a x).length : Int) = (l.length : Int) + 1 := by rw [puts_len h]; omega
  have hlow : ∀ s ∈ emi l a, ∃ f u : Nat, s.f = f ∧ s.t = u ∧ f ≤ u ∧ u < a := by
    intro s hs
    obtain ⟨f, u, e1, e2, e3, _⟩ := (inv_at l a h).rng s hs
    have := emi_strict l a h s hs
    exact ⟨f, u, e1, e2, e3, by omega⟩
  cases hb with
  | still h1 h2 h3 h4 =>
    refine ⟨l.length, [], h, Nat.le_refl _, (inv_at l a h).cf, ?_, ?_, ?_, hlow, by simp⟩
    · unfold pieces; rw [h1, h2]
    · intro hx
      obtain ⟨g1, g2⟩ := h3 hx
      unfold pieces
      rw [hlen, puts_len h, g1, g2]
      simp [Sp.till]
    · intro hx
      obtain ⟨g1, g2⟩ := h4 hx
      unfold pieces
      rw [hlen, puts_len h, g1, g2]
      simp
  | past t Y ht htj h1 hY hc h3 h4 h5 =>
    refine ⟨t, Y ++ [(cur l l.length).till l.length], ht, by omega, (inv_at l a h).cf, ?_, ?_, ?_, hlow, ?_⟩
    · unfold pieces; rw [h1]; simp
    · intro hx
      unfold pieces
      rw [hlen, puts_len h, h3 hx, h5]
      simp [Sp.till, Sp.shift]
    · intro hx
      unfold pieces
      rw [hlen, puts_len h, h4 hx, h5]
      simp [Sp.till, Sp.shift]
    · intro s hs
      have hin : s ∈ pieces l := by
        unfold pieces
        rw [h1]
        rcases List.mem_append.1 hs with h | h
        · simp [h]
        · simp at h; simp [h]
      obtain ⟨f, u, e1, e2, e3, e4⟩ := pieces_in hin
      have : (a : Int) ≤ s.f := by
        rcases List.mem_append.1 hs with h | h
        · exact hY s h
        · simp at h; subst h; exact hc
      exact ⟨f, u, e1, e2, by omega, e3, e4⟩

/-! ### the texts -/
theorem text_eq {l : List El} {f t : Nat} (h : f ≤ t) (ht : t ≤ l.length) : text l f t = txtOf ((l.drop f).take (t - f)) := by
  unfold text
  rw [if_neg (by omega)]
  have e1 : ((f : Int)).toNat = f := by simp
  have e2 : ((t : Int) - (f : Int)).toNat = t - f := by omega
  rw [e1, e2]
theorem text_low {l : List El} {a : Nat} {x : El} (h : a ≤ l.length) {f u : Nat} (hf : f ≤ u) (hu : u ≤ a) : text (puts l a x) f u = text l f u := by
  rw [text_eq hf (by rw [puts_len h]; omega), text_eq hf (by omega)]
  congr 1
  rw [← List.drop_take, ← List.drop_take, puts_take h hu]
theorem text_high {l : List El} {a : Nat} {x : El} (h : a ≤ l.length) {f u : Nat} (ha : a ≤ f) (hf : f ≤ u) (hu : u ≤ l.length) : text (puts l a x) ((f : Int) + 1) ((u : Int) + 1) = text l f u := by
  have := text_eq (l := puts l a x) (f := f + 1) (t := u + 1) (by omega) (by rw [puts_len h]; omega)
  have e1 : ((f + 1 : Nat) : Int) = (f : Int) + 1 := by omega
  have e2 : ((u + 1 : Nat) : Int) = (u : Int) + 1 := by omega
  rw [e1, e2] at this
  rw [this, text_eq hf hu, puts_drop h ha]
  congr 2; omega
theorem text_join {l : List El} {f a t : Nat} (h1 : f ≤ a) (h2 : a ≤ t) (ht : t ≤ l.length) : text l f t = text l f a ++ text l a t := by
  rw [text_eq (by omega) ht, text_eq h1 (by omega), text_eq h2 ht, ← txtOf_append]
  congr 1
  have e : t - f = (a - f) + (t - a) := by omega
  rw [e, List.take_add, List.drop_drop]
  congr 3; omega
/-- the piece that was cut: both parts' texts are its -/
theorem text_cut {l : List El} {a : Nat} {x : El} (h : a ≤ l.length) {f t : Nat} (h1 : f ≤ a) (h2 : a ≤ t) (ht : t ≤ l.length) : text l f t = text (puts l a x) f a ++ text (puts l a x) ((a : Int) + 1) ((t : Int) + 1) := by
  rw [text_low h h1 (Nat.le_refl _), text_high h (Nat.le_refl _) h2 ht]
  exact text_join h1 h2 ht
/-- what is not seen stands in its middle: its text is the same -/
theorem text_over {l : List El} {a : Nat} {x : El} (h : a ≤ l.length) (hx : vis x = false) {f t : Nat} (h1 : f ≤ a) (h2 : a ≤ t) (ht : t ≤ l.length) : text (puts l a x) f ((t : Int) + 1) = text l f t := by
  have j1 := text_join (l := puts l a x) (f := f) (a := a) (t := t + 1) h1 (by omega) (by rw [puts_len h]; omega)
  have j2 := text_join (l := puts l a x) (f := a) (a := a + 1) (t := t + 1) (by omega) (by omega) (by rw [puts_len h]; omega)
  have e1 : ((a + 1 : Nat) : Int) = (a : Int) + 1 := by omega
  have e2 : ((t + 1 : Nat) : Int) = (t : Int) + 1 := by omega
  rw [e1, e2] at j2
  rw [e2] at j1
  have m : text (puts l a x) a ((a : Int) + 1) = [] := by
    have := text_eq (l := puts l a x) (f := a) (t := a + 1) (by omega) (by rw [puts_len h]; omega)
    rw [e1] at this
    rw [this]
    have hd : (puts l a x).drop a = x :: l.drop a := by
      unfold puts
      have e : (l.take a).length = a := by simp; omega
      rw [List.drop_append, List.drop_of_length_le (by omega), List.nil_append, e, Nat.sub_self]; rfl
    rw [hd, show a + 1 - a = 1 by omega]
    simp [txtOf, hx]
  rw [j1, j2, m, List.nil_append, text_low h h1 (Nat.le_refl _), text_high h (Nat.le_refl _) h2 ht]
  exact (text_join h1 h2 ht).symm

/-! ### by their numbers -/
theorem at_low {α : Type} {E Y : List α} {z : α} {i : Nat} (h : i < E.length) : (E ++ z :: Y)[i]? = some E[i] := by
  rw [List.getElem?_append_left h, List.getElem?_eq_getElem h]
theorem at_mid {α : Type} {E Y : List α} {z : α} : (E ++ z :: Y)[E.length]? = some z := by simp
theorem at_high {α : Type} {E Y : List α} {z : α} {i : Nat} (h : E.length < i) : (E ++ z :: Y)[i]? = Y[i - E.length - 1]? := by
  rw [List.getElem?_append_right (by omega)]
  obtain ⟨d, rfl⟩ : ∃ d, i = E.length + 1 + d := ⟨i - E.length - 1, by omega⟩
  have e1 : E.length + 1 + d - E.length = d + 1 := by omega
  have e2 : E.length + 1 + d - E.length - 1 = d := by omega
  rw [e1, List.getElem?_cons_succ]
  congr 1

structure Idx (l : List El) (a : Nat) (x : El) (N K : Nat) (P Q : List Sp) : Prop where
  lenP : P.length = N
  lenQ : Q.length = N + 1
  kN : K < N
  low : ∀ i, i < K → ∃ (n r : Int) (f u : Nat), P[i]? = some ⟨n, r, f, u⟩ ∧ Q[i]? = some ⟨n, r, f, u⟩ ∧ f ≤ u ∧ u < a ∧ text (puts l a x) f u = text l f u
  mid : ∃ (n r : Int) (f t : Nat), P[K]? = some ⟨n, r, f, t⟩ ∧ Q[K]? = some ⟨n, r, f, a⟩ ∧ Q[K + 1]? = some ⟨x.n, x.r, (a : Int) + 1, (t : Int) + 1⟩ ∧ f ≤ a ∧ a ≤ t ∧ t ≤ l.length ∧
    text l f t = text (puts l a x) f a ++ text (puts l a x) ((a : Int) + 1) ((t : Int) + 1)
  high : ∀ i, K < i → i < N → ∃ (n r : Int) (f u : Nat), P[i]? = some ⟨n, r, f, u⟩ ∧ Q[i + 1]? = some ⟨n, r, (f : Int) + 1, (u : Int) + 1⟩ ∧ a ≤ f ∧ f ≤ u ∧ u ≤ l.length ∧
    text (puts l a x) ((f : Int) + 1) ((u : Int) + 1) = text l f u

/-- what is put in is no boundary, and not seen -/
structure Idx2 (l : List El) (a : Nat) (x : El) (N : Nat) (P R : List Sp) : Prop where
  lenR : R.length = N
  each : ∀ i, i < N → ∃ (n r : Int) (f u f' u' : Nat), P[i]? = some ⟨n, r, f, u⟩ ∧ R[i]? = some ⟨n, r, f', u'⟩ ∧ f ≤ u ∧ u ≤ l.length ∧ f' ≤ u' ∧ u' ≤ l.length + 1 ∧ text (puts l a x) f' u' = text l f u

theorem idx_of {l : List El} {a : Nat} {x : El} {E Y : List Sp} {c : Sp} {t : Nat} (ha : a ≤ l.length) (h : Split l a x E c t Y) (hx : bnd x = true) :
    Idx l a x (E.length + 1 + Y.length) E.length (pieces l) (pieces (puts l a x)) := by
  obtain ⟨f0, hf0, hfa⟩ := h.cf
  refine ⟨by rw [h.one]; simp; omega, by rw [h.two hx]; simp; omega, by omega, ?_, ?_, ?_⟩
  · intro i hi
    obtain ⟨f, u, e1, e2, e3, e4⟩ := h.low E[i] (List.getElem_mem hi)
    refine ⟨E[i].n, E[i].r, f, u, ?_, ?_, e3, e4, text_low ha e3 (by omega)⟩
    · rw [h.one, at_low hi]; simp only [← e1, ← e2]
    · rw [h.two hx, at_low hi]; simp only [← e1, ← e2]
  · refine ⟨c.n, c.r, f0, t, ?_, ?_, ?_, hfa, h.at_, h.tl, text_cut ha hfa h.at_ h.tl⟩
    · rw [h.one, at_mid]; simp [Sp.till, hf0]
    · rw [h.two hx, at_mid]; simp [Sp.till, hf0]
    · rw [h.two hx, at_high (by omega)]
      have : E.length + 1 - E.length - 1 = 0 := by omega
      rw [this]; rfl
  · intro i hi hiN
    obtain ⟨s, hs⟩ : ∃ s, Y[i - E.length - 1]? = some s := ⟨Y[i - E.length - 1]'(by omega), List.getElem?_eq_getElem _⟩
    obtain ⟨f, u, e1, e2, e3, e4, e5⟩ := h.high s (List.mem_of_getElem? hs)
    refine ⟨s.n, s.r, f, u, ?_, ?_, e3, e4, e5, text_high ha e3 e4 e5⟩
    · rw [h.one, at_high hi, hs]; simp only [← e1, ← e2]
    · rw [h.two hx, at_high (by omega)]
      have : i + 1 - E.length - 1 = (i - E.length - 1) + 1 := by omega
      rw [this, List.getElem?_cons_succ, List.getElem?_map, hs]
      simp [Sp.shift, e1, e2]

theorem idx2_of {l : List El} {a : Nat} {x : El} {E Y : List Sp} {c : Sp} {t : Nat} (ha : a ≤ l.length) (h : Split l a x E c t Y) (hx : bnd x = false) (hv : vis x = false) :
    Idx2 l a x (E.length + 1 + Y.length) (pieces l) (pieces (puts l a x)) := by
  obtain ⟨f0, hf0, hfa⟩ := h.cf
  refine ⟨by rw [h.same hx]; simp; omega, ?_⟩
  intro i hi
  rcases Nat.lt_trichotomy i E.length with h1 | h1 | h1
  · obtain ⟨f, u, e1, e2, e3, e4⟩ := h.low E[i] (List.getElem_mem h1)
    refine ⟨E[i].n, E[i].r, f, u, f, u, ?_, ?_, e3, by omega, e3, by omega, text_low ha e3 (by omega)⟩
    · rw [h.one, at_low h1]; simp only [← e1, ← e2]
    · rw [h.same hx, at_low h1]; simp only [← e1, ← e2]
  · subst h1
    have := h.at_
    have := h.tl
    refine ⟨c.n, c.r, f0, t, f0, t + 1, ?_, ?_, by omega, h.tl, by omega, by omega, ?_⟩
    · rw [h.one, at_mid]; simp [Sp.till, hf0]
    · rw [h.same hx, at_mid]; simp [Sp.till, hf0]
    · have e : ((t + 1 : Nat) : Int) = (t : Int) + 1 := by omega
      rw [e]; exact text_over ha hv hfa h.at_ h.tl
  · obtain ⟨s, hs⟩ : ∃ s, Y[i - E.length - 1]? = some s := ⟨Y[i - E.length - 1]'(by omega), List.getElem?_eq_getElem _⟩
    obtain ⟨f, u, e1, e2, e3, e4, e5⟩ := h.high s (List.mem_of_getElem? hs)
    refine ⟨s.n, s.r, f, u, f + 1, u + 1, ?_, ?_, e4, e5, by omega, by omega, ?_⟩
    · rw [h.one, at_high h1, hs]; simp only [← e1, ← e2]
    · rw [h.same hx, at_high h1, List.getElem?_map, hs]
      simp [Sp.shift, e1, e2]
    · have k1 : ((f + 1 : Nat) : Int) = (f : Int) + 1 := by omega
      have k2 : ((u + 1 : Nat) : Int) = (u : Int) + 1 := by omega
      rw [k1, k2]; exact text_high ha e3 e4 e5

theorem split_all {l : List El} {a : Nat} (ha : a ≤ l.length) (x y : El) (hx : bnd x = true) (hy : bnd y = false) (hv : vis y = false) :
    ∃ N K, Idx l a x N K (pieces l) (pieces (puts l a x)) ∧ Idx2 l a y N (pieces l) (pieces (puts l a y)) ∧ N ≤ l.length + 1 := by
  obtain ⟨t, Y, h⟩ := split_pieces x ha
  obtain ⟨t', Y', h'⟩ := split_pieces y ha
  have e := h.one.symm.trans h'.one
  have hl : Y.length = Y'.length := by
    have := congrArg List.length e
    simp at this
    exact this
  refine ⟨_, _, idx_of ha h hx, ?_, ?_⟩
  · rw [hl]; exact idx2_of ha h' hy hv
  · have h1 := (idx_of ha h hx).lenP
    rw [← h1, pieces_count]
    have := List.countP_le_length (p := bnd) (l := l)
    omega
end Go.Proofs.Ytdajnkcjdmnnkaa
