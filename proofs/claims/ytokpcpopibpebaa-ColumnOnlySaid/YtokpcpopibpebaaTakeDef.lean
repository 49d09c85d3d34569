/-
  What TakeRuns, TakeDeltas and TakeBools answer.
-/
import Derived.Test.YtokpcpopibpebaaRepeatF
import Derived.Test.YtokpcpopibpebaaTake
import Derived.Test.YtokpcpopibpebaaRTake
import Derived.Test.YtokpcpopibpebaaAppAt
namespace Go.Proofs.Ytokpcpopibpebaa
open Go Go.RowKit
set_option linter.unusedVariables false
set_option linter.unusedSimpArgs false

/-- the answer: nothing of a wrong count (1), nothing of wrong bytes (41), or a new list, and how many bytes -/
def Answer {α : Type} (e : TypeId) (V : α → Value) (arg : Bool) (r : Option (List α × Nat)) (w : World) (en : Ending) (w' : World) : Prop :=
  Below w.heap.size w w' ∧
  match arg, r with
  | true, _ => en = .returned (.tuple #[.slice none 0 0, .int .i64 0, .int .i64 1])
  | false, none => en = .returned (.tuple #[.slice none 0 0, .int .i64 0, .int .i64 41])
  | false, some (l, k) => ∃ A c, en = .returned (.tuple #[.slice A l.length c, .int .i64 (k : Int), .int .i64 0]) ∧ w'.ownsRow w.heap.size e 1 (.slice A l.length c) l.length (l.map V)
theorem Answer.arg_ {α : Type} {e : TypeId} {V : α → Value} {r : Option (List α × Nat)} {w w' : World} (h : Below w.heap.size w w') :
    Answer e V true r w (.returned (.tuple #[.slice none 0 0, .int .i64 0, .int .i64 1])) w' := ⟨h, rfl⟩
theorem Answer.none_ {α : Type} {e : TypeId} {V : α → Value} {r : Option (List α × Nat)} {w w' : World} (hr : r = none) (h : Below w.heap.size w w') :
    Answer e V false r w (.returned (.tuple #[.slice none 0 0, .int .i64 0, .int .i64 41])) w' := by subst hr; exact ⟨h, rfl⟩
theorem Answer.some_ {α : Type} {e : TypeId} {V : α → Value} {r : Option (List α × Nat)} {l : List α} {k n : Nat} {A : Option Addr} {c : Nat} {K : Int} {w w' : World} (hr : r = some (l, k)) (hn : l.length = n) (hK : K = k) (h : Below w.heap.size w w')
    (ho : w'.ownsRow w.heap.size e 1 (.slice A n c) n (l.map V)) : Answer e V false r w (.returned (.tuple #[.slice A n c, .int .i64 K, .int .i64 0])) w' := by
  subst hr hn hK
  exact ⟨h, A, c, rfl, ho⟩

def badN (n : Int) : Bool := decide (n < 0) || decide (65536 < n)
def takenI (b : List Nat) (n : Nat) : Option (List Int × Nat) := (parse b n none).map fun ps => (expand ps, (runsBytes ps).length)
def takenD (b : List Nat) (n : Nat) : Option (List Int × Nat) := (parse b n none).map fun ps => (undelta (expand ps), (runsBytes ps).length)
def takenB (b : List Nat) (n : Nat) : Option (List Bool × Nat) := (parseB b n true).map fun ks => (expandB false ks, (puts ks).length)

theorem expand_last {α : Type} (ps : List (Nat × α)) (k : Nat) (x : α) (hk : 1 ≤ k) : (expand (ps ++ [(k, x)])).getLast? = some x := by
  obtain ⟨m, rfl⟩ : ∃ m, k = m + 1 := ⟨k - 1, by omega⟩
  rw [expand_snoc, List.replicate_succ', ← List.append_assoc]
  simp

/-- what holds at the head of a round: ps has been taken, p bytes, m values -/
structure RunAt (W : World) (b : List Nat) (N : Nat) (ps : List (Nat × Int)) (p m : Nat) (Av : Option Addr) (cv : Nat) (w : World) : Prop where
  own : w.ownsRow W.heap.size 3 1 (.slice Av m cv) m (i64s (expand ps))
  below : Below W.heap.size W w
  rest : ∃ rest, b = runsBytes ps ++ rest
  at_ : (runsBytes ps).length = p
  len : (expand ps).length = m
  le : m ≤ N
  eq : parse b N none = (parse (b.drop p) (N - m) (expand ps).getLast?).map (ps ++ ·)

theorem RunAt.p_le {W : World} {b : List Nat} {N : Nat} {ps : List (Nat × Int)} {p m : Nat} {Av : Option Addr} {cv : Nat} {w : World} (h : RunAt W b N ps p m Av cv w) : p ≤ b.length := by
  obtain ⟨r, e⟩ := h.rest
  have := congrArg List.length e
  rw [List.length_append, h.at_] at this
  omega
theorem RunAt.start (W : World) (b : List Nat) (N : Nat) : RunAt W b N [] 0 0 none 0 W :=
  ⟨World.ownsRow_nil _ _ _ _, Below.refl _ _, ⟨b, rfl⟩, rfl, rfl, Nat.zero_le _, by simp [expand]⟩
section
variable {W : World} {b : List Nat} {N : Nat} {ps : List (Nat × Int)} {p m : Nat} {Av : Option Addr} {cv : Nat} {w : World}
theorem RunAt.bad (h : RunAt W b N ps p m Av cv w) (hm : m < N) (hp : pair (b.drop p) = none) : takenI b N = none := by
  unfold takenI
  rw [h.eq, parse_none (by omega) hp]; rfl
theorem RunAt.bad2 (h : RunAt W b N ps p m Av cv w) (hm : m < N) {k i : Nat} {x : Int} (hp : pair (b.drop p) = some (k, x, i)) (hb : k = 0 ∨ N - m < k ∨ (expand ps).getLast? = some x) : takenI b N = none := by
  unfold takenI
  rw [h.eq, parse_bad (by omega) hp hb]; rfl
theorem RunAt.next (h : RunAt W b N ps p m Av cv w) (hb : ∀ y ∈ b, y < 256) (hm : m < N) {k i : Nat} {x : Int} (hp : pair (b.drop p) = some (k, x, i)) (hg : ¬ (k = 0 ∨ N - m < k ∨ (expand ps).getLast? = some x))
    {Av' : Option Addr} {cv' : Nat} {w' : World} (ho : w'.ownsRow W.heap.size 3 1 (.slice Av' (m + k) cv') (m + k) (i64s (expand ps) ++ List.replicate k (Value.int .i64 x))) (hB : Below W.heap.size W w') :
    RunAt W b N (ps ++ [(k, x)]) (p + i) (m + k) Av' cv' w' := by
  obtain ⟨rest, e, hi, _, _⟩ := pair_some (fun y hy => hb y (List.mem_of_mem_drop hy)) hp
  have hk : 1 ≤ k ∧ k ≤ N - m := by
    constructor
    · rcases Nat.eq_zero_or_pos k with h0 | h0
      · exact absurd (.inl h0) hg
      · exact h0
    · rcases Nat.lt_or_ge (N - m) k with h0 | h0
      · exact absurd (.inr (.inl h0)) hg
      · exact h0
  refine ⟨?_, hB, ?_, ?_, ?_, by omega, ?_⟩
  · rw [expand_snoc, i64s_append]
    have e2 : i64s (List.replicate k x) = List.replicate k (Value.int .i64 x) := by simp [i64s]
    rw [e2]; exact ho
  · obtain ⟨r0, e0⟩ := h.rest
    have : b.drop p = r0 := by rw [e0, ← h.at_, List.drop_left]
    rw [this] at e
    exact ⟨rest, by rw [e0, e, runsBytes_snoc, List.append_assoc]⟩
  · rw [runsBytes_snoc, List.length_append, h.at_, hi]
  · rw [expand_snoc, List.length_append, h.len]; simp
  · rw [h.eq, parse_next (by omega) hp hg, List.drop_drop, expand_last ps k x hk.1, Nat.sub_sub]
    cases parse (b.drop (p + i)) (N - (m + k)) (some x) with
    | none => rfl
    | some qs => simp
theorem RunAt.done (h : RunAt W b N ps p m Av cv w) (hm : m = N) : takenI b N = some (expand ps, p) := by
  unfold takenI
  rw [h.eq, hm, Nat.sub_self, parse_zero]
  simp [h.at_]
end
theorem pair_none1 {b : List Nat} (h : V.take b = none) : pair b = none := by unfold pair; rw [h]
theorem pair_none2 {b : List Nat} {k i : Nat} (h : V.take b = some (k, i)) (h2 : V.take (b.drop i) = none) : pair b = none := by unfold pair; rw [h]; simp only [h2]
theorem pair_both {b : List Nat} {k i v j : Nat} (h : V.take b = some (k, i)) (h2 : V.take (b.drop i) = some (v, j)) : pair b = some (k, zag v, i + j) := by unfold pair; rw [h]; simp only [h2]
theorem take_le {b : List Nat} {k i : Nat} (hb : ∀ x ∈ b, x < 256) (h : V.take b = some (k, i)) : i ≤ b.length ∧ k < 18446744073709551616 := by
  obtain ⟨r, e, hi, hk⟩ := V.take_some hb h
  have := congrArg List.length e
  rw [List.length_append] at this
  omega
end Go.Proofs.Ytokpcpopibpebaa
