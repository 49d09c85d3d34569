/-
  A slice that lies in a cell (a struct's field, an element) opened: it reads as a list.
-/
import Derived.Test.YtfbiobglckjilaaOpen
import Derived.Lib.SmallJoins
namespace Go.Proofs.Ytfbiobglckjilaa
open Go Go.ChangeShapes Go.WideShapes Go.RowKit Go.Deep

section
variable {H : Type} {enc : TypeId × Value → H} {P : Program} {W : World}

theorem open_slice_cell {t e : TypeId} {fuel : Nat} {v : Value} {y : DataW H × List MemPlace} (ht : P.underlying t = some (.slice e)) (hc : P.cellsOf e = 1)
    (hf : DataW.trod enc P W 0 (fun _ => true) true fuel t [v] = some y) :
    ∃ A n c xs, v = .slice A n c ∧ Rd W W.heap.size 1 A n xs ∧ n ≤ c ∧ c ≤ maxLen ∧ ∀ x ∈ xs, ∃ m y, DataW.trod enc P W 0 (fun _ => true) true m e [x] = some y := by
  rcases open_slice ht hf with ⟨hcs, hx⟩ | ⟨a, n, cap, m, k, D, Pl, hcs, _, hl, hm, hmm, hx, hi⟩
  · simp only [List.cons.injEq, and_true] at hcs
    exact ⟨none, 0, 0, [], hcs, Rd.nil _ _ _ _, Nat.le_refl _, by simp [maxLen], by simp⟩
  · simp only [List.cons.injEq, and_true] at hcs
    subst hcs
    simp only [if_true] at hmm
    subst hmm
    have hcell : ∀ i, i < n → ∃ u, W.cell? (a.add i) = some u ∧ ∃ m y, DataW.trod enc P W 0 (fun _ => true) true m e [u] = some y := by
      intro i hin
      obtain ⟨cs', h1, h2⟩ := hi i (by omega)
      rw [hc, Nat.mul_one] at h1
      obtain ⟨_, hcl, hat⟩ := World.cells?_some h1
      match cs', hcl with
      | [u], _ =>
        have h0 := hat 0 (by omega)
        have : (a.add i).add 0 = a.add i := by simp [Addr.add]
        rw [this] at h0
        exact ⟨u, by simpa using h0, k, _, h2⟩
    obtain ⟨xs, hxl, hxs⟩ := listOf (fun (i : Nat) u => W.cell? (a.add i) = some u ∧ ∃ m y, DataW.trod enc P W 0 (fun _ => true) true m e [u] = some y) n (fun i _ => i) hcell
    refine ⟨some a, n, m, xs, rfl, ⟨by simpa using hxl, ?_⟩, hl, hm, ?_⟩
    · rcases Nat.eq_zero_or_pos n with h0 | h0
      · exact .inl h0
      · obtain ⟨hc0, _⟩ := hxs 0 h0 (by omega)
        obtain ⟨b, off, spot⟩ := a
        have hspot : spot = none := by simpa [Addr.add] using World.cell?_spot hc0
        subst hspot
        refine .inr ⟨b, off, rfl, ?_, fun j u hu => ?_⟩
        · have := World.block_lt_of_cell? W _ hc0
          rw [addr_add] at this
          exact this
        · have hj : j < xs.length := by
            rcases Nat.lt_or_ge j xs.length with h | h
            · exact h
            · rw [List.getElem?_eq_none h] at hu; cases hu
          obtain ⟨h1, _⟩ := hxs j (by omega) hj
          rw [addr_add] at h1
          rw [List.getElem?_eq_getElem hj] at hu
          rw [h1, hu]
    · intro x hx'
      obtain ⟨i, hi', rfl⟩ := List.getElem_of_mem hx'
      exact (hxs i (by omega) hi').2
end
end Go.Proofs.Ytfbiobglckjilaa
