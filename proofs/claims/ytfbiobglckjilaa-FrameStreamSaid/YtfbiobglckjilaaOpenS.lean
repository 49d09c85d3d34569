/-
  A []Framed that came in, opened.
-/
import Derived.Test.YtfbiobglckjilaaOpenF
namespace Go.Proofs.Ytfbiobglckjilaa
open Go Go.ChangeShapes Go.WideShapes Go.RowKit Go.Deep

/-- one element: its kind and its body -/
structure Elem where
  k : Nat
  A : Option Addr
  n : Nat
  c : Nat
  l : List Nat

/-- a []Framed that came in -/
structure FramedsIn (W : World) (A : Option Addr) (N : Nat) (es : List Elem) : Prop where
  len : es.length = N
  bodies : ∀ e ∈ es, e.k < 256 ∧ Byts W e.A e.n e.c e.l
  cells : N = 0 ∨ ∃ b off, A = some ⟨b, off, none⟩ ∧ b < W.heap.size ∧ ∀ j e, es[j]? = some e → W.cell? ⟨b, off + j * 4, none⟩ = some (.int .u8 (e.k : Nat)) ∧ W.cell? ⟨b, off + j * 4 + 1, none⟩ = some (.slice e.A e.n e.c)

theorem cells22 : Try.prog.cellsOf 22 = 1 := by kernel_rfl

section
variable {H : Type} {enc : TypeId × Value → H} {W : World}
theorem framed_cells {fuel : Nat} {cs : List Value} {y : DataW H × List MemPlace} (hf : DataW.trod enc Try.prog W 0 (fun _ => true) true fuel 35 cs = some y) :
    ∃ e : Elem, ∃ v2 v3, cs = [.int .u8 (e.k : Nat), .slice e.A e.n e.c, v2, v3] ∧ e.k < 256 ∧ Byts W e.A e.n e.c e.l := by
  obtain ⟨y0, y1, y2, y3, m, rfl, hl, h0, h1, h2, h3⟩ := Joins.trod_struct4 Try.underlying35 hf
  rw [cells35] at hl
  match cs, hl with
  | [v0, v1, v2, v3], _ =>
    obtain ⟨K, rfl, hK⟩ := u8_cell (v := v0) (by simpa [cells5] using h0)
    obtain ⟨A, n, c, l, rfl, b⟩ := byts_cell (v := v1) (by simpa [cells22] using h1)
    exact ⟨⟨K, A, n, c, l⟩, v2, v3, rfl, hK, b⟩

theorem open_frameds {base : Nat} {v : Value} {d : DataW H} {p : List MemPlace} (hv : Value.okWide Try.prog W .any base 40 v) (h : DataW.Trod enc Try.prog W 0 (fun _ => true) true 40 v d p)
    {ts : List TypeId} {ds : List (DataW H)} (_ : (DataW.weightsEach Try.prog ts ds).all (· ≤ reachBytes) = true) (j : Nat) (_ : ts[j]? = some 40) (_ : ds[j]? = some d) :
    ∃ A n c es, v = .slice A n c ∧ FramedsIn W A n es := by
  obtain ⟨A, n, c, rfl⟩ := okWide_slice Try.underlying40 hv
  obtain ⟨fuel, hf⟩ := h
  rcases open_slice Try.underlying40 hf with ⟨hcs, hx⟩ | ⟨a, len, cap, m, k, D, Pl, hcs, _, hl, hm, hmm, hx, hi⟩
  · simp [Value.cells] at hcs
    obtain ⟨rfl, rfl, rfl⟩ := hcs
    exact ⟨none, 0, 0, [], rfl, rfl, by simp, .inl rfl⟩
  · simp [Value.cells] at hcs
    obtain ⟨rfl, rfl, rfl⟩ := hcs
    simp only [if_true] at hmm
    subst hmm
    have hcell : ∀ i, i < n → ∃ e : Elem, (W.cell? (a.add (i * 4)) = some (.int .u8 (e.k : Nat)) ∧ W.cell? ((a.add (i * 4)).add 1) = some (.slice e.A e.n e.c)) ∧ e.k < 256 ∧ Byts W e.A e.n e.c e.l := by
      intro i hin
      obtain ⟨cs', h1, h2⟩ := hi i (by omega)
      rw [cells35] at h1
      obtain ⟨e, v2, v3, rfl, hK, hB⟩ := framed_cells h2
      obtain ⟨_, hcl, hat⟩ := World.cells?_some h1
      have h0 := hat 0 (by omega)
      have h1' := hat 1 (by omega)
      have : (a.add (i * 4)).add 0 = a.add (i * 4) := by simp [Addr.add]
      rw [this] at h0
      exact ⟨e, ⟨by simpa using h0, by simpa using h1'⟩, hK, hB⟩
    obtain ⟨es, hel, hes⟩ := listOf (fun (i : Nat) (e : Elem) => (W.cell? (a.add (i * 4)) = some (.int .u8 (e.k : Nat)) ∧ W.cell? ((a.add (i * 4)).add 1) = some (.slice e.A e.n e.c)) ∧ e.k < 256 ∧ Byts W e.A e.n e.c e.l) n (fun i _ => i) hcell
    refine ⟨some a, n, m, es, rfl, hel, ?_, ?_⟩
    · intro e he
      obtain ⟨i, hi', rfl⟩ := List.getElem_of_mem he
      exact (hes i (by omega) hi').2
    · rcases Nat.eq_zero_or_pos n with h0 | h0
      · exact .inl h0
      · obtain ⟨⟨hc0, _⟩, _⟩ := hes 0 h0 (by omega)
        obtain ⟨b, off, spot⟩ := a
        have hspot : spot = none := by simpa [Addr.add] using World.cell?_spot hc0
        subst hspot
        refine .inr ⟨b, off, rfl, ?_, fun j e he => ?_⟩
        · have := World.block_lt_of_cell? W _ hc0
          rw [addr_add] at this
          exact this
        · have hj : j < es.length := by
            rcases Nat.lt_or_ge j es.length with h | h
            · exact h
            · rw [List.getElem?_eq_none h] at he; cases he
          rw [List.getElem?_eq_getElem hj] at he
          injection he with he
          subst he
          obtain ⟨⟨h1, h2⟩, _⟩ := hes j (by omega) hj
          rw [addr_add] at h1
          rw [addr_add, addr_add] at h2
          exact ⟨h1, h2⟩
end
end Go.Proofs.Ytfbiobglckjilaa
