/-
  ARGUMENTS OPENED: a slice whose elements take sz cells each.
-/
import Derived.Test.YtcdhndhgainadaaOpen
import Derived.Lib.SmallJoins
import Derived.Deep.Strs
namespace Go.Proofs.Ytcdhndhgainadaa
open Go Go.ChangeShapes Go.WideShapes Go.RowKit Go.Deep

section
variable {H : Type} {enc : TypeId × Value → H} {P : Program} {W : World}

theorem flatN {α : Type} (f : α → List Value) (sz : Nat) (hf : ∀ a, (f a).length = sz) : ∀ (xs : List α) (k : Nat) (e : α) (j : Nat), xs[k]? = some e → j < sz → (xs.flatMap f)[k * sz + j]? = (f e)[j]? := by
  intro xs
  induction xs with
  | nil => intro k e j h; simp at h
  | cons x xs ih =>
    intro k e j h hj
    rw [List.flatMap_cons]
    cases k with
    | zero =>
      simp at h; subst h
      rw [Nat.zero_mul, Nat.zero_add, List.getElem?_append_left (by rw [hf]; exact hj)]
    | succ k =>
      rw [List.getElem?_append_right (by rw [hf, Nat.add_mul]; omega)]
      have : (k + 1) * sz + j - (f x).length = k * sz + j := by rw [hf, Nat.add_mul]; omega
      rw [this]
      exact ih k e j (by simpa using h) hj
theorem flatN_len {α : Type} (f : α → List Value) (sz : Nat) (hf : ∀ a, (f a).length = sz) : ∀ xs : List α, (xs.flatMap f).length = xs.length * sz
  | [] => by simp
  | x :: xs => by rw [List.flatMap_cons, List.length_append, hf, flatN_len f sz hf xs, List.length_cons, Nat.add_mul]; omega
theorem flatN_at {α : Type} (f : α → List Value) (sz : Nat) (hf : ∀ a, (f a).length = sz) (hs : 0 < sz) (xs : List α) (j : Nat) (u : Value) (h : (xs.flatMap f)[j]? = some u) : ∃ k e, xs[k]? = some e ∧ (f e)[j % sz]? = some u ∧ k = j / sz := by
  have hj : j < xs.length * sz := by
    rcases Nat.lt_or_ge j (xs.length * sz) with h1 | h1
    · exact h1
    · rw [List.getElem?_eq_none (by rw [flatN_len f sz hf]; exact h1)] at h; cases h
  have hk : j / sz < xs.length := (Nat.div_lt_iff_lt_mul hs).2 hj
  have hm : j % sz < sz := Nat.mod_lt _ hs
  refine ⟨j / sz, xs[j / sz], List.getElem?_eq_getElem hk, ?_, rfl⟩
  rw [← flatN f sz hf xs (j / sz) _ (j % sz) (List.getElem?_eq_getElem hk) hm, ← h]
  congr 1
  have := Nat.div_add_mod j sz
  rw [Nat.mul_comm] at this
  exact this

/-- a slice's cells, by what each element's cells are: f a, with G a beside -/
theorem open_slice_n {t e : TypeId} {fuel sz : Nat} {v : Value} {y : DataW H × List MemPlace} (ht : P.underlying t = some (.slice e)) (hc : P.cellsOf e = sz) (hs : 0 < sz)
    (h : DataW.trod enc P W 0 (fun _ => true) true fuel t [v] = some y)
    {α : Type} (f : α → List Value) (hfl : ∀ a, (f a).length = sz) (G : α → DataW H → Prop) (hf : ∀ m cs y, m < fuel → cs.length = sz → DataW.trod enc P W 0 (fun _ => true) true m e cs = some y → ∃ a : α, cs = f a ∧ G a y.1) :
    ∃ (A : Option Addr) (n c : Nat) (xs : List α), v = .slice A n c ∧ Rd W W.heap.size sz A n (xs.flatMap f) ∧ n ≤ c ∧ c ≤ maxLen ∧ ((y.1 = .nil ∧ n = 0) ∨ ∃ elems spare, y.1 = .slice elems spare ∧ elems.length + spare.length = c) ∧ xs.length = n ∧ ∀ x ∈ xs, ∃ d, G x d := by
  rcases DataW.trod_slice ht h with ⟨hcs, hx⟩ | ⟨a, n, cap, elems, rest, k, hfu, hcs, hx, _, hl, hm, hlen, hel, hsp, _⟩
  · simp only [List.cons.injEq, and_true] at hcs
    subst hcs
    exact ⟨none, 0, 0, [], rfl, Rd.nil _ _ _ _, Nat.le_refl _, by simp [maxLen], .inl ⟨by rw [hx], rfl⟩, rfl, by simp⟩
  · simp only [List.cons.injEq, and_true] at hcs
    subst hcs
    have hrl := (hsp rfl).1
    have hcell : ∀ i, i < n → ∃ b : α, (∀ j u, (f b)[j]? = some u → W.cell? ((a.add (i * sz)).add j) = some u) ∧ ∃ d, G b d := by
      intro i hin
      have hi := hel i hin
      rw [hc, List.getElem?_eq_getElem (by omega)] at hi
      obtain ⟨cs', h1, h2⟩ := Option.bind_eq_some_iff.1 hi
      obtain ⟨_, hcl, hat⟩ := World.cells?_some h1
      obtain ⟨b, rfl, hg⟩ := hf k cs' _ (by omega) hcl h2
      refine ⟨b, fun j u hu => ?_, _, hg⟩
      have hj : j < sz := by
        rcases Nat.lt_or_ge j sz with h | h
        · exact h
        · rw [List.getElem?_eq_none (by rw [hfl]; exact h)] at hu; cases hu
      have := hat j hj
      rw [this]
      exact hu
    obtain ⟨xs, hxl, hxs⟩ := listOf (fun (i : Nat) (b : α) => (∀ j u, (f b)[j]? = some u → W.cell? ((a.add (i * sz)).add j) = some u) ∧ ∃ d, G b d) n (fun i _ => i) hcell
    refine ⟨some a, n, cap, xs, rfl, ⟨by rw [flatN_len f sz hfl, hxl], ?_⟩, hl, hm, .inr ⟨_, _, by rw [hx], by simp; omega⟩, hxl, ?_⟩
    · rcases Nat.eq_zero_or_pos n with h0 | h0
      · exact .inl h0
      · obtain ⟨hc0, _⟩ := hxs 0 h0 (by omega)
        obtain ⟨u0, hu0⟩ : ∃ u0, (f xs[0])[0]? = some u0 := ⟨(f xs[0])[0]'(by rw [hfl]; exact hs), List.getElem?_eq_getElem _⟩
        have hc00 := hc0 0 u0 hu0
        obtain ⟨b, off, spot⟩ := a
        have hspot : spot = none := by simpa [Addr.add] using World.cell?_spot hc00
        subst hspot
        refine .inr ⟨b, off, rfl, ?_, fun j u hu => ?_⟩
        · have := World.block_lt_of_cell? W _ hc00
          simpa [addr_add] using this
        · obtain ⟨k', e', he', hu', rfl⟩ := flatN_at f sz hfl hs xs j u hu
          obtain ⟨hk', rfl⟩ := List.getElem?_eq_some_iff.1 he'
          have := (hxs (j / sz) (by omega) hk').1 (j % sz) u hu'
          rw [addr_add, addr_add] at this
          rw [← this]
          congr 2
          have := Nat.div_add_mod j sz
          rw [Nat.mul_comm] at this
          omega
    · intro x hx'
      obtain ⟨i, hi', rfl⟩ := List.getElem_of_mem hx'
      exact (hxs i (by omega) hi').2
end
end Go.Proofs.Ytcdhndhgainadaa
