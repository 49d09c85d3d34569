/-
  Columns, plainly: what is taken from bytes; differences; truths.
-/
import Derived.Test.YtokpcpopibpebaaColLaw
namespace Go.Proofs.Ytokpcpopibpebaa
open Go Go.RowKit
set_option linter.unusedVariables false
set_option linter.unusedSimpArgs false

/-! ### runs, and lists of runs -/
section
variable {α : Type}
def expand (ps : List (Nat × α)) : List α := ps.flatMap fun p => List.replicate p.1 p.2
theorem expand_nil : expand ([] : List (Nat × α)) = [] := rfl
theorem expand_cons (p : Nat × α) (ps : List (Nat × α)) : expand (p :: ps) = List.replicate p.1 p.2 ++ expand ps := by simp [expand]
theorem expand_append (ps qs : List (Nat × α)) : expand (ps ++ qs) = expand ps ++ expand qs := by simp [expand]
theorem expand_snoc (ps : List (Nat × α)) (k : Nat) (x : α) : expand (ps ++ [(k, x)]) = expand ps ++ List.replicate k x := by simp [expand]

/-- the first value of a run is another than that of the one ahead -/
def apart : Option α → List (Nat × α) → Prop
  | _, [] => True
  | last, (k, x) :: ps => 1 ≤ k ∧ last ≠ some x ∧ apart (some x) ps
theorem apart_none {o : Option α} {ps : List (Nat × α)} (h : apart o ps) : apart none ps := by
  cases ps with
  | nil => trivial
  | cons p ps => exact ⟨h.1, by simp, h.2.2⟩
theorem expand_len (ps : List (Nat × α)) : (expand ps).length = (ps.map (·.1)).sum := by
  induction ps with
  | nil => rfl
  | cons p ps ih => rw [expand_cons]; simp [ih]
theorem expand_head : ∀ (ps : List (Nat × α)) (o : Option α), apart o ps → (expand ps).head? = ps.head?.map (·.2)
  | [], _, _ => rfl
  | (k, x) :: ps, o, h => by
    obtain ⟨m, hm⟩ : ∃ m, k = m + 1 := ⟨k - 1, by have := h.1; omega⟩
    rw [expand_cons, hm]; rfl
variable [DecidableEq α]
instance apartDec : ∀ (o : Option α) (ps : List (Nat × α)), Decidable (apart o ps)
  | _, [] => isTrue trivial
  | last, (k, x) :: ps => @instDecidableAnd _ _ (inferInstance) (@instDecidableAnd _ _ inferInstance (apartDec (some x) ps))

theorem takeWhile_lead (x : α) : ∀ l : List α, l = List.replicate (lead x l) x ++ l.drop (lead x l)
  | [] => by simp [lead]
  | y :: l => by
    by_cases h : y = x
    · subst h
      have := takeWhile_lead y l
      have e : lead y (y :: l) = lead y l + 1 := by simp [lead, List.takeWhile_cons]
      rw [e, List.replicate_succ, List.drop_succ_cons, List.cons_append, ← this]
    · have e : lead x (y :: l) = 0 := by simp [lead, List.takeWhile_cons, h]
      rw [e]; simp

theorem expand_runs : ∀ l : List α, expand (runs l) = l
  | [] => by rw [runs_nil]; rfl
  | x :: l => by
    have h := lead_le x l
    rw [runs_cons, expand_cons, expand_runs (l.drop (lead x l))]
    show List.replicate (lead x l + 1) x ++ _ = _
    rw [List.replicate_succ, List.cons_append, ← takeWhile_lead]
termination_by l => l.length
decreasing_by simp; omega

theorem drop_lead_head (x : α) : ∀ l : List α, (l.drop (lead x l)).head? ≠ some x
  | [] => by simp
  | y :: l => by
    by_cases h : y = x
    · subst h
      have e : lead y (y :: l) = lead y l + 1 := by simp [lead, List.takeWhile_cons]
      rw [e, List.drop_succ_cons]
      exact drop_lead_head y l
    · have e : lead x (y :: l) = 0 := by simp [lead, List.takeWhile_cons, h]
      rw [e]; simp [h]

theorem apart_runs : ∀ (l : List α) (o : Option α), (l = [] ∨ o ≠ l.head?) → apart o (runs l)
  | [], o, _ => by rw [runs_nil]; trivial
  | x :: l, o, h => by
    rw [runs_cons]
    have hl := lead_le x l
    refine ⟨by simp, ?_, ?_⟩
    · rcases h with h | h
      · cases h
      · simpa using h
    · refine apart_runs (l.drop (lead x l)) (some x) ?_
      right
      exact fun e => drop_lead_head x l e.symm
termination_by l => l.length
decreasing_by simp; omega

theorem lead_rep (x : α) (k : Nat) (l : List α) (h : l.head? ≠ some x) : lead x (List.replicate k x ++ l) = k := by
  refine lead_all x _ k (fun j hj => by rw [List.getElem?_append_left (by simpa using hj)]; simp [hj]) ?_
  cases l with
  | nil => left; simp
  | cons y l => right; exact ⟨y, by simp, fun e => h (by simp [e])⟩

theorem runs_expand : ∀ (ps : List (Nat × α)) (o : Option α), apart o ps → runs (expand ps) = ps
  | [], _, _ => by rw [expand_nil, runs_nil]
  | (k, x) :: ps, o, h => by
    obtain ⟨m, rfl⟩ : ∃ m, k = m + 1 := ⟨k - 1, by have := h.1; omega⟩
    have hd : (expand ps).head? ≠ some x := by
      rw [expand_head ps (some x) h.2.2]
      cases ps with
      | nil => simp
      | cons q qs =>
        obtain ⟨j, y⟩ := q
        have := h.2.2.2.1
        simp only [ne_eq, Option.some.injEq] at this
        simp only [List.head?_cons, Option.map_some, ne_eq, Option.some.injEq]
        exact fun e => this e.symm
    rw [expand_cons]
    show runs (List.replicate (m + 1) x ++ expand ps) = _
    rw [List.replicate_succ, List.cons_append, runs_cons, lead_rep x m _ hd, List.drop_left' (by simp), runs_expand ps (some x) h.2.2]

theorem apart_iff (ps : List (Nat × α)) : apart none ps ↔ runs (expand ps) = ps := by
  constructor
  · exact runs_expand ps none
  · intro h
    rw [← h]
    refine apart_runs _ none ?_
    cases expand ps <;> simp

theorem runs_replicate (k : Nat) (x : α) (h : 1 ≤ k) : runs (List.replicate k x) = [(k, x)] := by
  have := runs_expand [(k, x)] none ⟨h, by simp, trivial⟩
  simpa [expand] using this
end

/-! ### a column of numbers is taken -/
def InI (x : Int) : Prop := -9223372036854775808 ≤ x ∧ x < 9223372036854775808

/-- one run, off the head of bytes -/
def pair (b : List Nat) : Option (Nat × Int × Nat) := match V.take b with
  | none => none
  | some (k, i) => match V.take (b.drop i) with
    | none => none
    | some (v, j) => some (k, zag v, i + j)

theorem zig_nat {x : Int} (h : InI x) : ((zig x).toNat : Int) = zig x ∧ (zig x).toNat < 18446744073709551616 := by
  have := zig_range x h.1 h.2; omega

theorem pair_put (k : Nat) (x : Int) (rest : List Nat) (hk : k < 18446744073709551616) (hx : InI x) : pair (runBytes (k, x) ++ rest) = some (k, x, (runBytes (k, x)).length) := by
  obtain ⟨h1, h2⟩ := zig_nat hx
  unfold pair runBytes
  rw [List.append_assoc, V.take_put k _ hk]
  simp only [List.drop_left, V.take_put _ rest h2, h1, zag_zig, List.length_append]

theorem pair_some {b : List Nat} {k : Nat} {x : Int} {i : Nat} (hb : ∀ y ∈ b, y < 256) (h : pair b = some (k, x, i)) :
    ∃ rest, b = runBytes (k, x) ++ rest ∧ i = (runBytes (k, x)).length ∧ k < 18446744073709551616 ∧ InI x := by
  unfold pair at h
  split at h
  · cases h
  · rename_i k' i' h1
    split at h
    · cases h
    · rename_i v j h2
      simp only [Option.some.injEq, Prod.mk.injEq] at h
      obtain ⟨rfl, rfl, rfl⟩ := h
      obtain ⟨r1, e1, rfl, l1⟩ := V.take_some hb h1
      have hb2 : ∀ y ∈ b.drop (V.put k').length, y < 256 := fun y hy => hb y (List.mem_of_mem_drop hy)
      obtain ⟨r2, e2, rfl, l2⟩ := V.take_some hb2 h2
      have hz := zig_zag (v : Int) (by omega)
      have hzn : (zig (zag (v : Int))).toNat = v := by rw [hz]; omega
      refine ⟨r2, ?_, ?_, l1, zag_range _ (by omega) (by omega)⟩
      · unfold runBytes
        simp only [hzn, List.append_assoc, ← e2]
        conv => lhs; rw [e1]
        rw [e1, List.drop_left]
      · unfold runBytes; simp only [hzn, List.length_append]

theorem runBytes_pos (p : Nat × Int) : 2 ≤ (runBytes p).length := by
  unfold runBytes
  have h1 := V.put_length_pos p.1
  have h2 := V.put_length_pos (zig p.2).toNat
  simp; omega

/-- so many values are taken (the program's way) -/
def parse (b : List Nat) (left : Nat) (last : Option Int) : Option (List (Nat × Int)) :=
  if left = 0 then some [] else
  match pair b with
  | none => none
  | some (k, x, i) => if h : k = 0 ∨ left < k ∨ last = some x then none else (parse (b.drop i) (left - k) (some x)).map ((k, x) :: ·)
termination_by left
decreasing_by omega

/-- the same, told no matter what the last one was -/
def parseR (b : List Nat) (left : Nat) : Option (List (Nat × Int)) :=
  if left = 0 then some [] else
  match pair b with
  | none => none
  | some (k, x, i) => if h : k = 0 ∨ left < k then none else (parseR (b.drop i) (left - k)).map ((k, x) :: ·)
termination_by left
decreasing_by omega

theorem parse_zero (b : List Nat) (o : Option Int) : parse b 0 o = some [] := by rw [parse]; simp
theorem parse_none {b : List Nat} {left : Nat} {o : Option Int} (hl : left ≠ 0) (h : pair b = none) : parse b left o = none := by rw [parse]; simp [hl, h]
theorem parse_bad {b : List Nat} {left : Nat} {o : Option Int} {k i : Nat} {x : Int} (hl : left ≠ 0) (h : pair b = some (k, x, i)) (hb : k = 0 ∨ left < k ∨ o = some x) : parse b left o = none := by rw [parse]; simp only [if_neg hl, h, dif_pos hb]
theorem parse_next {b : List Nat} {left : Nat} {o : Option Int} {k i : Nat} {x : Int} (hl : left ≠ 0) (h : pair b = some (k, x, i)) (hb : ¬ (k = 0 ∨ left < k ∨ o = some x)) : parse b left o = (parse (b.drop i) (left - k) (some x)).map ((k, x) :: ·) := by rw [parse]; simp only [if_neg hl, h, dif_neg hb]
theorem parseR_zero (b : List Nat) : parseR b 0 = some [] := by rw [parseR]; simp
theorem parseR_none {b : List Nat} {left : Nat} (hl : left ≠ 0) (h : pair b = none) : parseR b left = none := by rw [parseR]; simp [hl, h]
theorem parseR_bad {b : List Nat} {left : Nat} {k i : Nat} {x : Int} (hl : left ≠ 0) (h : pair b = some (k, x, i)) (hb : k = 0 ∨ left < k) : parseR b left = none := by rw [parseR]; simp only [if_neg hl, h, dif_pos hb]
theorem parseR_next {b : List Nat} {left : Nat} {k i : Nat} {x : Int} (hl : left ≠ 0) (h : pair b = some (k, x, i)) (hb : ¬ (k = 0 ∨ left < k)) : parseR b left = (parseR (b.drop i) (left - k)).map ((k, x) :: ·) := by rw [parseR]; simp only [if_neg hl, h, dif_neg hb]

theorem parse_eq (left : Nat) : ∀ (b : List Nat) (o : Option Int), parse b left o = (parseR b left).bind fun ps => if apart o ps then some ps else none := by
  induction left using Nat.strongRecOn with
  | _ left ih =>
    intro b o
    by_cases hl : left = 0
    · subst hl
      rw [parse_zero, parseR_zero]; simp [apart]
    · cases hp : pair b with
      | none => rw [parse_none hl hp, parseR_none hl hp]; rfl
      | some r =>
        obtain ⟨k, x, i⟩ := r
        by_cases h1 : k = 0 ∨ left < k
        · rw [parse_bad hl hp (by rcases h1 with h | h; exact .inl h; exact .inr (.inl h)), parseR_bad hl hp h1]; rfl
        · rw [parseR_next hl hp h1]
          by_cases h2 : o = some x
          · rw [parse_bad hl hp (.inr (.inr h2))]
            cases parseR (b.drop i) (left - k) with
            | none => rfl
            | some ps =>
              simp only [Option.map_some, Option.bind_some]
              rw [if_neg]
              rintro ⟨_, h3, _⟩
              exact h3 h2
          · rw [parse_next hl hp (fun h => by rcases h with h | h | h; exact h1 (.inl h); exact h1 (.inr h); exact h2 h), ih (left - k) (by omega)]
            cases parseR (b.drop i) (left - k) with
            | none => rfl
            | some ps =>
              simp only [Option.map_some, Option.bind_some]
              have hk : 1 ≤ k := by omega
              by_cases h3 : apart (some x) ps
              · rw [if_pos h3, if_pos ⟨hk, h2, h3⟩]; rfl
              · rw [if_neg h3, if_neg (fun h => h3 h.2.2)]; rfl
end Go.Proofs.Ytokpcpopibpebaa
