/-
  The block of a place, plainly.
-/
import Derived.Test.YtdajnkcjdmnnkaaAllLaw
namespace Go.Proofs.Ytdajnkcjdmnnkaa
open Go Go.RowKit

/-- how many of the first k are not gone -/
def seen (l : List El) (k : Nat) : Nat := (l.take k).countP fun e => !e.gone
/-- characters since the last boundary ahead of k -/
def since (l : List El) : Nat → Nat
  | 0 => 0
  | k + 1 => match l[k]? with
    | some e => if e.gone then since l k else if e.ch = 0 then 0 else since l k + 1
    | none => since l k

theorem seen_zero (l : List El) : seen l 0 = 0 := by simp [seen]
theorem seen_step {l : List El} {k : Nat} {e : El} (h : l[k]? = some e) : seen l (k + 1) = seen l k + (if e.gone then 0 else 1) := by
  unfold seen
  rw [take_one h, List.countP_append]
  cases hg : e.gone <;> simp [hg]
theorem seen_le (l : List El) (k : Nat) : seen l k ≤ k := by
  unfold seen
  exact Nat.le_trans List.countP_le_length (List.length_take_le _ _)
theorem seen_mono {l : List El} {k m : Nat} (h : k ≤ m) : seen l k ≤ seen l m := by
  unfold seen
  have e : m = k + (m - k) := by omega
  rw [e, List.take_add, List.countP_append]; omega
theorem seen_over {l : List El} {k : Nat} (h : l.length ≤ k) : seen l k = seen l l.length := by
  unfold seen
  rw [List.take_of_length_le h, List.take_length]

theorem since_gone {l : List El} {k : Nat} {e : El} (h : l[k]? = some e) (hg : e.gone = true) : since l (k + 1) = since l k := by simp [since, h, hg]
theorem since_bnd {l : List El} {k : Nat} {e : El} (h : l[k]? = some e) (hb : bnd e = true) : since l (k + 1) = 0 := by
  obtain ⟨h1, h2⟩ := bnd_parts hb
  simp [since, h, h1, h2]
theorem since_char {l : List El} {k : Nat} {e : El} (h : l[k]? = some e) (hg : e.gone = false) (hc : ¬ e.ch = 0) : since l (k + 1) = since l k + 1 := by simp [since, h, hg, hc]
theorem gone_not_bnd {e : El} (h : e.gone = true) : bnd e = false := by simp [bnd, h]
theorem char_not_bnd {e : El} (h : ¬ e.ch = 0) : bnd e = false := by simp [bnd, h]

/-- where as many are seen, the same block is, with the same characters -/
theorem same_at {l : List El} {i : Nat} : ∀ d, seen l (i + d) = seen l i → i + d ≤ l.length → (cur l (i + d)) = (cur l i) ∧ since l (i + d) = since l i
  | 0, _, _ => ⟨rfl, rfl⟩
  | d + 1, h, hl => by
    obtain ⟨e, he⟩ : ∃ e, l[i + d]? = some e := ⟨l[i + d]'(by omega), List.getElem?_eq_getElem _⟩
    have h1 := seen_step he
    have h2 := seen_mono (l := l) (show i ≤ i + d by omega)
    have e1 : i + (d + 1) = i + d + 1 := rfl
    rw [e1] at h ⊢
    have hg : e.gone = true := by
      cases hgo : e.gone with
      | true => rfl
      | false => rw [hgo] at h1; simp at h1; omega
    rw [hg] at h1
    simp only [if_true, Nat.add_zero] at h1
    obtain ⟨g1, g2⟩ := same_at (l := l) (i := i) d (by omega) (by omega)
    exact ⟨(cur_miss he (gone_not_bnd hg)).trans g1, (since_gone he hg).trans g2⟩

/-- THE ANSWER OF Around -/
structure AroundIs (l : List El) (n b1 b2 k : Int) : Prop where
  neg : n < 0 → b1 = 0 ∧ b2 = 0 ∧ k = -1
  over : 0 ≤ n → (seen l l.length : Int) < n → b1 = 0 ∧ b2 = 0 ∧ k = -1
  at_ : ∀ i, i ≤ l.length → (seen l i : Int) = n → b1 = (cur l i).n ∧ b2 = (cur l i).r ∧ k = (since l i : Int)

theorem AroundIs.of_at {l : List El} {n : Int} {i : Nat} (hi : i ≤ l.length) (h : (seen l i : Int) = n) : AroundIs l n (cur l i).n (cur l i).r (since l i) := by
  refine ⟨fun h' => by omega, fun _ h' => ?_, fun j hj h' => ?_⟩
  · have := seen_mono (l := l) hi; omega
  · have e : seen l i = seen l j := by omega
    rcases Nat.le_total i j with h1 | h1
    · obtain ⟨g1, g2⟩ := same_at (l := l) (i := i) (j - i) (by rw [show i + (j - i) = j by omega]; omega) (by omega)
      rw [show i + (j - i) = j by omega] at g1 g2
      rw [g1, g2]; exact ⟨rfl, rfl, rfl⟩
    · obtain ⟨g1, g2⟩ := same_at (l := l) (i := j) (i - j) (by rw [show j + (i - j) = i by omega]; omega) (by omega)
      rw [show j + (i - j) = i by omega] at g1 g2
      rw [g1, g2]; exact ⟨rfl, rfl, rfl⟩
theorem AroundIs.of_neg {l : List El} {n : Int} (h : n < 0) : AroundIs l n 0 0 (-1) :=
  ⟨fun _ => ⟨rfl, rfl, rfl⟩, fun h' => by omega, fun i _ h' => by omega⟩
theorem AroundIs.of_over {l : List El} {n : Int} (h : (seen l l.length : Int) < n) : AroundIs l n 0 0 (-1) :=
  ⟨fun _ => ⟨rfl, rfl, rfl⟩, fun _ _ => ⟨rfl, rfl, rfl⟩, fun i hi h' => by have := seen_mono (l := l) hi; omega⟩

/-- a place at which as many are seen is there -/
theorem seen_hits (l : List El) : ∀ k, k ≤ l.length → ∀ n, n ≤ seen l k → ∃ i, i ≤ k ∧ seen l i = n
  | 0, _, n, h => ⟨0, Nat.le_refl _, by rw [seen_zero] at h ⊢; omega⟩
  | k + 1, hk, n, h => by
    obtain ⟨e, he⟩ : ∃ e, l[k]? = some e := ⟨l[k]'(by omega), List.getElem?_eq_getElem _⟩
    have h1 := seen_step he
    rcases Nat.lt_or_ge (seen l k) n with h2 | h2
    · refine ⟨k + 1, Nat.le_refl _, ?_⟩
      split at h1 <;> omega
    · obtain ⟨i, hi, e⟩ := seen_hits l k (by omega) n h2
      exact ⟨i, by omega, e⟩

theorem AroundIs.unique {l : List El} {n b1 b2 k c1 c2 m : Int} (h : AroundIs l n b1 b2 k) (h' : AroundIs l n c1 c2 m) : b1 = c1 ∧ b2 = c2 ∧ k = m := by
  rcases Classical.em (n < 0) with h0 | h0
  · obtain ⟨rfl, rfl, rfl⟩ := h.neg h0
    obtain ⟨rfl, rfl, rfl⟩ := h'.neg h0
    exact ⟨rfl, rfl, rfl⟩
  · rcases Classical.em ((seen l l.length : Int) < n) with h1 | h1
    · obtain ⟨rfl, rfl, rfl⟩ := h.over (by omega) h1
      obtain ⟨rfl, rfl, rfl⟩ := h'.over (by omega) h1
      exact ⟨rfl, rfl, rfl⟩
    · obtain ⟨i, hi, e⟩ := seen_hits l l.length (Nat.le_refl _) n.toNat (by omega)
      obtain ⟨rfl, rfl, rfl⟩ := h.at_ i hi (by omega)
      obtain ⟨rfl, rfl, rfl⟩ := h'.at_ i hi (by omega)
      exact ⟨rfl, rfl, rfl⟩

/-! ### by the pieces -/
theorem since_seen (l : List El) : ∀ k, k ≤ l.length → ∃ f : Nat, (cur l k).f = f ∧ f ≤ k ∧ since l k + seen l f = seen l k
  | 0, _ => ⟨0, rfl, Nat.le_refl _, by simp [since]⟩
  | k + 1, hk => by
    obtain ⟨e, he⟩ : ∃ e, l[k]? = some e := ⟨l[k]'(by omega), List.getElem?_eq_getElem _⟩
    obtain ⟨f, h1, h2, h3⟩ := since_seen l k (by omega)
    have hs := seen_step he
    cases hb : bnd e with
    | true =>
      refine ⟨k + 1, by rw [cur_hit he hb]; simp, Nat.le_refl _, by rw [since_bnd he hb]; omega⟩
    | false =>
      refine ⟨f, by rw [cur_miss he hb]; exact h1, by omega, ?_⟩
      cases hg : e.gone with
      | true => rw [since_gone he hg, hs, hg]; simp; omega
      | false =>
        have hc : ¬ e.ch = 0 := fun h => by simp [bnd, h, hg] at hb
        rw [since_char he hg hc, hs, hg]; simp; omega

/-- within the piece under way the block is that -/
theorem cur_stays (l : List El) : ∀ k, k ≤ l.length → ∀ (x : Nat), (cur l k).f ≤ (x : Int) → x ≤ k → cur l x = cur l k
  | 0, _, x, _, hx => by obtain rfl : x = 0 := by omega
                         rfl
  | k + 1, hk, x, h1, hx => by
    rcases Nat.lt_or_ge x (k + 1) with h2 | h2
    · obtain ⟨e, he⟩ : ∃ e, l[k]? = some e := ⟨l[k]'(by omega), List.getElem?_eq_getElem _⟩
      cases hb : bnd e with
      | true => rw [cur_hit he hb] at h1; simp at h1; omega
      | false =>
        rw [cur_miss he hb] at h1 ⊢
        exact cur_stays l k (by omega) x h1 (by omega)
    · obtain rfl : x = k + 1 := by omega
      rfl
theorem emi_stays (l : List El) : ∀ k, k ≤ l.length → ∀ s ∈ emi l k, ∀ (x : Nat), s.f ≤ (x : Int) → (x : Int) ≤ s.t → cur l x = ⟨s.n, s.r, s.f, 0⟩
  | 0, _, s, h, _, _, _ => by simp [emi] at h
  | k + 1, hk, s, h, x, h1, h2 => by
    obtain ⟨e, he⟩ : ∃ e, l[k]? = some e := ⟨l[k]'(by omega), List.getElem?_eq_getElem _⟩
    cases hb : bnd e with
    | true =>
      rw [emi_hit he hb] at h
      rcases List.mem_append.1 h with h3 | h3
      · exact emi_stays l k (by omega) s h3 x h1 h2
      · simp at h3
        subst h3
        simp only [Sp.till] at h1 h2 ⊢
        rw [cur_stays l k (by omega) x h1 (by omega)]
        have := cur_t l k
        cases hc : cur l k
        rw [hc] at this
        simp at this
        simp [this]
    | false =>
      rw [emi_miss he hb] at h
      exact emi_stays l k (by omega) s h x h1 h2
theorem piece_stays {l : List El} {s : Sp} (h : s ∈ pieces l) (x : Nat) (h1 : s.f ≤ (x : Int)) (h2 : (x : Int) ≤ s.t) : cur l x = ⟨s.n, s.r, s.f, 0⟩ := by
  rcases List.mem_append.1 h with h3 | h3
  · exact emi_stays l l.length (Nat.le_refl _) s h3 x h1 h2
  · simp at h3
    subst h3
    simp only [Sp.till] at h1 h2 ⊢
    rw [cur_stays l l.length (Nat.le_refl _) x h1 (by omega)]
    have := cur_t l l.length
    cases hc : cur l l.length
    rw [hc] at this
    simp at this
    simp [this]
/-- characters since the piece's beginning -/
theorem piece_since {l : List El} {s : Sp} (h : s ∈ pieces l) {f x : Nat} (hf : s.f = f) (h1 : f ≤ x) (h2 : (x : Int) ≤ s.t) : since l x + seen l f = seen l x := by
  obtain ⟨f', t', e1, e2, e3, e4⟩ := pieces_in h
  obtain ⟨f2, g1, _, g3⟩ := since_seen l x (by omega)
  have := piece_stays h x (by omega) h2
  rw [this] at g1
  simp only at g1
  have : f2 = f := by omega
  rw [this] at g3
  exact g3

/-- how much the pieces pre take of a place -/
def taken (l : List El) (pre : List Sp) : Nat := (pre.map fun s => seen l s.t.toNat - seen l s.f.toNat + 1).sum
theorem taken_snoc (l : List El) (pre : List Sp) (s : Sp) : taken l (pre ++ [s]) = taken l pre + (seen l s.t.toNat - seen l s.f.toNat + 1) := by simp [taken]

theorem prefix_at {α : Type} {pre P : List α} {s : α} (h : pre ++ [s] <+: P) : P[pre.length]? = some s := by
  obtain ⟨r, rfl⟩ := h
  simp

theorem taken_at (l : List El) : ∀ (pre : List Sp) (s : Sp), pre ++ [s] <+: pieces l → taken l pre = seen l s.f.toNat := by
  intro pre
  induction hn : pre.length generalizing pre with
  | zero =>
    intro s h
    have : pre = [] := List.eq_nil_of_length_eq_zero hn
    subst this
    have h1 := pieces_first (prefix_at h)
    simp [taken, h1.1, seen_zero]
  | succ m ih =>
    intro s h
    obtain ⟨pre', s', rfl⟩ : ∃ p' s', pre = p' ++ [s'] := by
      refine ⟨pre.dropLast, pre.getLast (by intro e; simp [e] at hn), (List.dropLast_concat_getLast _).symm⟩
    have hp : pre' ++ [s'] <+: pieces l := (List.prefix_append _ _).trans h
    have hlen : pre'.length = m := by simpa using hn
    rw [taken_snoc, ih pre' hlen s' hp]
    have g1 := prefix_at hp
    have g2 : (pieces l)[pre'.length + 1]? = some s := by have := prefix_at h; simpa using this
    obtain ⟨t, e, e1, e2, e3, e4, e5, e6⟩ := pieces_step g1 g2
    obtain ⟨f', t', k1, k2, k3, k4⟩ := pieces_in (List.mem_of_getElem? g1)
    have : t' = t := by omega
    subst this
    have hs := seen_step e2
    rw [(bnd_parts e3).2] at hs
    simp at hs
    rw [e6, k1, k2]
    have m1 := seen_mono (l := l) k3
    have e7 : ((t' : Int) + 1).toNat = t' + 1 := by omega
    rw [e7, hs]
    simp only [Int.toNat_natCast]
    omega

theorem taken_all (l : List El) : taken l (pieces l) = seen l l.length + 1 := by
  have h : emi l l.length ++ [(cur l l.length).till l.length] <+: pieces l := List.prefix_refl _
  have h1 := taken_at l _ _ h
  have e : pieces l = emi l l.length ++ [(cur l l.length).till l.length] := rfl
  rw [e, taken_snoc, h1]
  obtain ⟨f, g1, g2, _⟩ := since_seen l l.length (Nat.le_refl _)
  have := seen_mono (l := l) g2
  simp only [Sp.till, g1, Int.toNat_natCast]
  omega
end Go.Proofs.Ytdajnkcjdmnnkaa
