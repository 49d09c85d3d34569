/-
  ColumnShort, plainly.
-/
import Derived.Test.YtokpcpopibpebaaColPlain2
namespace Go.Proofs.Ytokpcpopibpebaa
open Go Go.RowKit
set_option linter.unusedVariables false
set_option linter.unusedSimpArgs false

theorem dFrom_snoc : ∀ (p : Int) (l : List Int) (y : Int), dFrom p (l ++ [y]) = dFrom p l ++ [wrap64 (y - (l.getLast?.getD p))]
  | p, [], y => rfl
  | p, x :: t, y => by
    have ih := dFrom_snoc x t y
    have e : (x :: t).getLast?.getD p = t.getLast?.getD x := by
      cases t with
      | nil => rfl
      | cons a t => rw [List.getLast?_cons_cons]; rw [List.getLast?_eq_some_getLast (by simp)]; rfl
    rw [List.cons_append, dFrom, ih, dFrom, List.cons_append, e]
theorem delta_snoc {l : List Int} {x : Int} (h : l.getLast? = some x) (y : Int) : delta (l ++ [y]) = delta l ++ [wrap64 (y - x)] := by
  cases l with
  | nil => simp at h
  | cons z t =>
    have e : t.getLast?.getD z = x := by
      cases t with
      | nil => simpa using h
      | cons a t => rw [List.getLast?_cons_cons] at h; rw [h]; rfl
    rw [List.cons_append, delta, dFrom_snoc, delta, List.cons_append, e]

/-- the values that rise by one step -/
def rise (first step : Int) : Nat → Int
  | 0 => first
  | i + 1 => wrap64 (rise first step i + step)
def rises (first step : Int) : Nat → List Int
  | 0 => []
  | i + 1 => rises first step i ++ [rise first step i]
theorem rises_len (first step : Int) : ∀ i, (rises first step i).length = i
  | 0 => rfl
  | i + 1 => by rw [rises, List.length_append, rises_len first step i]; rfl
theorem rises_last (first step : Int) (i : Nat) : (rises first step (i + 1)).getLast? = some (rise first step i) := by rw [rises]; simp
theorem rise_InI {first step : Int} (h : InI first) : ∀ i, InI (rise first step i)
  | 0 => h
  | i + 1 => wrap64_InI _
theorem rises_InI {first step : Int} (h : InI first) : ∀ i, ∀ x ∈ rises first step i, InI x
  | 0, x, hx => by cases hx
  | i + 1, x, hx => by
    rw [rises] at hx
    rcases List.mem_append.1 hx with hx | hx
    · exact rises_InI h i x hx
    · simp at hx; rw [hx]; exact rise_InI h i
theorem delta_rises {first step : Int} (h : InI first) (hs : InI step) : ∀ i, delta (rises first step (i + 1)) = first :: List.replicate i step
  | 0 => rfl
  | i + 1 => by
    rw [rises, delta_snoc (rises_last first step i), delta_rises h hs i, rise]
    have e : wrap64 (wrap64 (rise first step i + step) - rise first step i) = step := by rw [Int.add_comm]; exact wrap_add_sub hs
    rw [e, List.replicate_succ']
    rfl

theorem put3 {k : Nat} (h : k ≤ 65537) : (V.put k).length ≤ 3 := V.put_length_le 3 k (by omega) (by omega)
theorem put_one : (V.put 1).length = 1 := by rw [V.put_lt (by omega)]; rfl
theorem runB_len {k : Nat} {x : Int} (hk : k ≤ 65537) (hx : InI x) : (runBytes (k, x)).length ≤ 13 ∧ 1 ≤ (runBytes (k, x)).length := by
  have h1 := put3 hk
  have h2 := V.put_length_ten (zig_nat hx).2
  have h3 := runBytes_pos (k, x)
  unfold runBytes at h3 ⊢
  simp only [List.length_append] at h3 ⊢
  omega

theorem short_one {n : Nat} {first : Int} (hn : n ≤ 65536) (h : InI first) : (runsBytes (runs (List.replicate n first))).length ≤ 13 ∧ ((runsBytes (runs (List.replicate n first))).length = 0 ↔ n = 0) := by
  rcases Nat.eq_zero_or_pos n with h0 | h0
  · subst h0
    simp [runs_nil, runsBytes]
  · rw [runs_replicate n first h0]
    have := runB_len (k := n) (by omega) h
    simp only [runsBytes, List.flatMap_cons, List.flatMap_nil, List.append_nil]
    omega
theorem short_two {n : Nat} {first step : Int} (hn : n ≤ 65536) (h : InI first) (hs : InI step) : (runsBytes (runs (delta (rises first step n)))).length ≤ 26 := by
  cases n with
  | zero => simp [rises, delta, runs_nil, runsBytes]
  | succ i =>
    rw [delta_rises h hs]
    by_cases hi : i = 0
    · subst hi
      have e : first :: List.replicate 0 step = List.replicate 1 first := rfl
      rw [e, runs_replicate 1 first (by omega)]
      have := runB_len (k := 1) (by omega) h
      simp only [runsBytes, List.flatMap_cons, List.flatMap_nil, List.append_nil]
      omega
    · by_cases he : first = step
      · subst he
        rw [← List.replicate_succ, runs_replicate _ first (by omega)]
        have := runB_len (k := i + 1) (by omega) h
        simp only [runsBytes, List.flatMap_cons, List.flatMap_nil, List.append_nil]
        omega
      · have e : first :: List.replicate i step = expand [(1, first), (i, step)] := by simp [expand]
        rw [e, runs_expand [(1, first), (i, step)] none ⟨Nat.le_refl _, by simp, by omega, by simpa using he, trivial⟩]
        have h1 := runB_len (k := 1) (by omega) h
        have h2 := runB_len (k := i) (by omega) hs
        simp only [runsBytes, List.flatMap_cons, List.flatMap_nil, List.append_nil, List.length_append]
        omega
/-- the sum, kept modulo 2^64 -/
theorem rise_step {x v step : Int} (hv : wrap64 x = v) : wrap64 (IntKind.u64.wrap (x + IntKind.u64.wrap step)) = wrap64 (v + step) := by
  subst hv
  rw [IntKind.wrap_u64, IntKind.wrap_u64]
  unfold wrap64
  omega
theorem rise_zero {first : Int} (h : InI first) : wrap64 (IntKind.u64.wrap first) = first := by
  rw [IntKind.wrap_u64]
  unfold InI at h
  unfold wrap64
  omega
end Go.Proofs.Ytokpcpopibpebaa
