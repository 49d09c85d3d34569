/-
  ARGUMENTS OPENED: a slice of one-cell elements that came in reads as a list.
-/
import Derived.Test.YtcdhndhgainadaaLaw
import Derived.Test.YtcdhndhgainadaaKit
import Derived.Deep.Slices
import Derived.WalkSmall
namespace Go.Proofs.Ytcdhndhgainadaa
open Go Go.ChangeShapes Go.WideShapes Go.RowKit Go.Deep

section
variable {H : Type} {enc : TypeId × Value → H} {P : Program} {W : World}

theorem listOf {α β : Type} (R : α → β → Prop) : ∀ n : Nat, ∀ f : (i : Nat) → i < n → α, (∀ i h, ∃ b, R (f i h) b) → ∃ l : List β, l.length = n ∧ ∀ i (h : i < n) (h' : i < l.length), R (f i h) l[i]
  | 0, _, _ => ⟨[], rfl, fun i h _ => absurd h (by omega)⟩
  | n + 1, f, hf => by
    obtain ⟨l, hl, hr⟩ := listOf R n (fun i h => f i (by omega)) (fun i h => hf i (by omega))
    obtain ⟨b, hb⟩ := hf n (by omega)
    refine ⟨l ++ [b], by simp [hl], fun i h h' => ?_⟩
    by_cases hi : i < n
    · rw [List.getElem_append_left (by omega)]; exact hr i hi (by omega)
    · have : i = n := by omega
      subst this
      rw [List.getElem_append_right (by omega)]
      simpa [hl] using hb

theorem open_slice_one {t e : TypeId} {base : Nat} {v : Value} {d : DataW H} {p : List MemPlace} (ht : P.underlying t = some (.slice e)) (hc : P.cellsOf e = 1)
    (hv : Value.okWide P W .any base t v) (h : DataW.Trod enc P W 0 (fun _ => true) true t v d p) :
    ∃ A n c xs, v = .slice A n c ∧ Rd W W.heap.size 1 A n xs ∧ n ≤ c ∧ c ≤ maxLen ∧ ((d = .nil ∧ n = 0) ∨ ∃ elems spare, d = .slice elems spare ∧ elems.length + spare.length = c) ∧
      ∀ x ∈ xs, ∃ m y, DataW.trod enc P W 0 (fun _ => true) true m e [x] = some y := by
  obtain ⟨A, n, c, rfl⟩ := okWide_slice ht hv
  obtain ⟨fuel, hf⟩ := h
  rcases open_slice ht hf with ⟨hcs, hx⟩ | ⟨a, len, cap, m, k, D, Pl, hcs, _, hl, hm, hmm, hx, hi⟩
  · simp [Value.cells] at hcs
    obtain ⟨rfl, rfl, rfl⟩ := hcs
    simp only [Prod.mk.injEq] at hx
    exact ⟨none, 0, 0, [], rfl, Rd.nil _ _ _ _, Nat.le_refl _, by simp [maxLen], .inl ⟨hx.1, rfl⟩, by simp⟩
  · simp [Value.cells] at hcs
    obtain ⟨rfl, rfl, rfl⟩ := hcs
    simp only [if_true] at hmm
    subst hmm
    simp only [Prod.mk.injEq] at hx
    have hcell : ∀ i, i < n → ∃ u, W.cell? (a.add i) = some u ∧ ∃ m y, DataW.trod enc P W 0 (fun _ => true) true m e [u] = some y := by
      intro i hin
      obtain ⟨cs', h1, h2⟩ := hi i (by omega)
      rw [hc, Nat.mul_one] at h1
      obtain ⟨_, hcl, hat⟩ := World.cells?_some h1
      match cs', hcl with
      | [u], _ =>
        have h0 := hat 0 (by omega)
        have : (a.add i).add 0 = a.add i := by simp [Addr.add]
        rw [this] at h0
        exact ⟨u, by simpa using h0, k, _, h2⟩
    obtain ⟨xs, hxl, hxs⟩ := listOf (fun (i : Nat) u => W.cell? (a.add i) = some u ∧ ∃ m y, DataW.trod enc P W 0 (fun _ => true) true m e [u] = some y) n (fun i _ => i) hcell
    refine ⟨some a, n, m, xs, rfl, ⟨by simpa using hxl, ?_⟩, hl, hm, .inr ⟨_, _, hx.1, by simp; omega⟩, ?_⟩
    · rcases Nat.eq_zero_or_pos n with h0 | h0
      · exact .inl h0
      · obtain ⟨hc0, _⟩ := hxs 0 h0 (by omega)
        obtain ⟨b, off, spot⟩ := a
        have hspot : spot = none := by simpa [Addr.add] using World.cell?_spot hc0
        subst hspot
        refine .inr ⟨b, off, rfl, ?_, fun j u hu => ?_⟩
        · have := World.block_lt_of_cell? W _ hc0
          rw [addr_add] at this
          exact this
        · have hj : j < xs.length := by
            rcases Nat.lt_or_ge j xs.length with h | h
            · exact h
            · rw [List.getElem?_eq_none h] at hu; cases hu
          obtain ⟨h1, _⟩ := hxs j (by omega) hj
          rw [addr_add] at h1
          rw [List.getElem?_eq_getElem hj] at hu
          rw [h1, hu]
    · intro x hx'
      obtain ⟨i, hi', rfl⟩ := List.getElem_of_mem hx'
      exact (hxs i (by omega) hi').2

theorem list_nums {k : IntKind} {e : TypeId} (he : P.underlying e = some (.int k)) : ∀ xs : List Value, (∀ x ∈ xs, ∃ m y, DataW.trod enc P W 0 (fun _ => true) true m e [x] = some y) →
    ∃ l : List Int, xs = l.map (Value.int k) ∧ ∀ n ∈ l, (Lit.int k n).wf = true
  | [], _ => ⟨[], rfl, by simp⟩
  | x :: xs, h => by
    obtain ⟨m, y, hy⟩ := h x (by simp)
    obtain ⟨n, hn, _, hw⟩ := DataW.trod_int he hy
    obtain ⟨l, rfl, hl⟩ := list_nums he xs (fun z hz => h z (List.mem_cons_of_mem _ hz))
    simp only [List.cons.injEq, and_true] at hn
    subst hn
    exact ⟨n :: l, rfl, by simpa using ⟨hw, hl⟩⟩

theorem list_bools {e : TypeId} (he : P.underlying e = some .bool) : ∀ xs : List Value, (∀ x ∈ xs, ∃ m y, DataW.trod enc P W 0 (fun _ => true) true m e [x] = some y) →
    ∃ l : List Bool, xs = l.map Value.bool
  | [], _ => ⟨[], rfl⟩
  | x :: xs, h => by
    obtain ⟨m, y, hy⟩ := h x (by simp)
    obtain ⟨n, hn, _⟩ := DataW.trod_bool he hy
    obtain ⟨l, rfl⟩ := list_bools he xs (fun z hz => h z (List.mem_cons_of_mem _ hz))
    simp only [List.cons.injEq, and_true] at hn
    subst hn
    exact ⟨n :: l, rfl⟩

theorem nums_nat : ∀ l : List Int, (∀ n ∈ l, 0 ≤ n) → ∃ r : List Nat, l = r.map fun (x : Nat) => (x : Int)
  | [], _ => ⟨[], rfl⟩
  | n :: l, h => by
    obtain ⟨r, rfl⟩ := nums_nat l (fun z hz => h z (List.mem_cons_of_mem _ hz))
    obtain ⟨m, rfl⟩ := Int.eq_ofNat_of_zero_le (h n (by simp))
    exact ⟨m :: r, rfl⟩
end
end Go.Proofs.Ytcdhndhgainadaa
