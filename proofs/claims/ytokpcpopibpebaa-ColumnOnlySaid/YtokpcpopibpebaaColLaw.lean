/-
  Columns, plainly: the runs of a list.
-/
import Derived.Test.YtokpcpopibpebaaVarintLaw
import Derived.Test.YtokpcpopibpebaaBits
namespace Go.Proofs.Ytokpcpopibpebaa
open Go Go.RowKit

section
variable {α : Type} [DecidableEq α]
def lead (x : α) (l : List α) : Nat := (l.takeWhile fun y => decide (y = x)).length
theorem lead_le (x : α) (l : List α) : lead x l ≤ l.length := by
  unfold lead
  exact (List.takeWhile_prefix _).length_le

def runs : List α → List (Nat × α)
  | [] => []
  | x :: l => (lead x l + 1, x) :: runs (l.drop (lead x l))
termination_by l => l.length
decreasing_by simp; omega

theorem runs_nil : runs ([] : List α) = [] := by rw [runs]
theorem runs_cons (x : α) (l : List α) : runs (x :: l) = (lead x l + 1, x) :: runs (l.drop (lead x l)) := by rw [runs]

theorem lead_all (x : α) : ∀ (l : List α) (k : Nat), (∀ j, j < k → l[j]? = some x) → (k = l.length ∨ ∃ y, l[k]? = some y ∧ y ≠ x) → lead x l = k
  | [], k, h, h' => by
    rcases h' with h' | ⟨y, h', _⟩
    · simp [lead, h']
    · simp at h'
  | y :: l, 0, h, h' => by
    rcases h' with h' | ⟨z, h', hz⟩
    · simp at h'
    · simp at h'; subst h'
      simp [lead, hz]
  | y :: l, k + 1, h, h' => by
    have h0 := h 0 (by omega)
    simp at h0
    subst h0
    have ih := lead_all y l k (fun j hj => by have := h (j + 1) (by omega); simpa using this) (by
      rcases h' with h' | ⟨z, h', hz⟩
      · left; simp at h'; exact h'
      · right; exact ⟨z, by simpa using h', hz⟩)
    unfold lead at ih ⊢
    rw [List.takeWhile_cons, if_pos (by simp)]
    simp [ih]

/-- the first run, found -/
theorem runs_first {L : List α} {x : α} {k : Nat} (h1 : 1 ≤ k) (h : ∀ j, j < k → L[j]? = some x) (h' : k = L.length ∨ ∃ y, L[k]? = some y ∧ y ≠ x) : runs L = (k, x) :: runs (L.drop k) := by
  cases L with
  | nil => have := h 0 (by omega); simp at this
  | cons y l =>
    have h0 := h 0 (by omega)
    simp at h0
    subst h0
    obtain ⟨m, rfl⟩ : ∃ m, k = m + 1 := ⟨k - 1, by omega⟩
    have e := lead_all y l m (fun j hj => by have := h (j + 1) (by omega); simpa using this) (by
      rcases h' with h' | ⟨z, h', hz⟩
      · left; simp at h'; exact h'
      · right; exact ⟨z, by simpa using h', hz⟩)
    rw [runs_cons, e]
    simp

theorem runs_sum : ∀ l : List α, ((runs l).map (·.1)).sum = l.length
  | [] => by rw [runs_nil]; rfl
  | x :: l => by
    rw [runs_cons]
    have := runs_sum (l.drop (lead x l))
    have h := lead_le x l
    simp only [List.map_cons, List.sum_cons, List.length_cons, this, List.length_drop]
    omega
termination_by l => l.length
decreasing_by simp; omega

theorem runs_len : ∀ l : List α, (runs l).length ≤ l.length
  | [] => by rw [runs_nil]; exact Nat.le_refl _
  | x :: l => by
    rw [runs_cons]
    have := runs_len (l.drop (lead x l))
    have h := lead_le x l
    simp only [List.length_cons, List.length_drop] at this ⊢
    omega
termination_by l => l.length
decreasing_by simp; omega

theorem runs_mem {l : List α} : ∀ {p : Nat × α}, p ∈ runs l → 1 ≤ p.1 ∧ p.1 ≤ l.length ∧ p.2 ∈ l := by
  induction h : l.length using Nat.strongRecOn generalizing l with
  | _ n ih =>
    intro p hp
    cases l with
    | nil => rw [runs_nil] at hp; cases hp
    | cons x l =>
      rw [runs_cons] at hp
      have hl := lead_le x l
      simp only [List.length_cons] at h
      rcases List.mem_cons.1 hp with rfl | hp
      · exact ⟨by simp, by simp; omega, by simp⟩
      · obtain ⟨h1, h2, h3⟩ := ih (l.drop (lead x l)).length (by simp; omega) rfl hp
        refine ⟨h1, ?_, List.mem_cons_of_mem _ (List.mem_of_mem_drop h3)⟩
        simp at h2
        omega
end

/-- the bytes of a column of numbers -/
def runBytes (p : Nat × Int) : List Nat := V.put p.1 ++ V.put (zig p.2).toNat
def runsBytes (rs : List (Nat × Int)) : List Nat := rs.flatMap runBytes
theorem runsBytes_snoc (rs : List (Nat × Int)) (p : Nat × Int) : runsBytes (rs ++ [p]) = runsBytes rs ++ runBytes p := by simp [runsBytes]
theorem runsBytes_byte (rs : List (Nat × Int)) : ∀ x ∈ runsBytes rs, x < 256 := by
  intro x hx
  simp only [runsBytes, List.mem_flatMap, runBytes, List.mem_append] at hx
  obtain ⟨p, _, h | h⟩ := hx
  · exact V.put_byte _ x h
  · exact V.put_byte _ x h
theorem runBytes_len (p : Nat × Int) (h1 : p.1 < 18446744073709551616) (h2 : (zig p.2).toNat < 18446744073709551616) : (runBytes p).length ≤ 20 := by
  simp only [runBytes, List.length_append]
  have := V.put_length_ten h1
  have := V.put_length_ten h2
  omega
end Go.Proofs.Ytokpcpopibpebaa
