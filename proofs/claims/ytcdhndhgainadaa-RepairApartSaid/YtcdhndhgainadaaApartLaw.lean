/-
  RepairApart, plainly: where a root's kids are of flow kinds, and no para or head has anything under it, each comes to what it comes to alone.
-/
import Derived.Test.YtcdhndhgainadaaRepEnd
namespace Go.Proofs.Ytcdhndhgainadaa
open Go Go.RowKit
set_option linter.unusedVariables false
set_option linter.unusedSimpArgs false

def Apart (x : RT) : Prop := x.kdOf.flow = true ∧ (x.kdOf = .para ∨ x.kdOf = .head → x.kids = [])
theorem apart_node {x : RT} (h : Apart x) : ∀ u ∈ nodeT x, Kd.allows .doc u.kdOf = true := by
  obtain ⟨n, r, k, a, tx, ks⟩ := x
  obtain ⟨h1, h2⟩ := h
  simp only [RT.kdOf, RT.kind, RT.kids] at h1 h2
  intro u hu
  rw [nodeT] at hu
  unfold nodeK at hu
  cases hk : kd k <;> rw [hk] at hu h1 h2
  case para =>
    obtain rfl := h2 (.inl rfl)
    simp only [rowT, List.mem_cons, List.not_mem_nil, or_false] at hu
    subst hu
    simp only [RT.kdOf, RT.kind, hk]; rfl
  case head =>
    obtain rfl := h2 (.inr rfl)
    simp only [rowT, List.mem_cons, List.not_mem_nil, or_false] at hu
    subst hu
    simp only [RT.kdOf, RT.kind, hk]; rfl
  case quote | list | table =>
    simp only [List.mem_cons, List.not_mem_nil, or_false] at hu
    subst hu
    simp only [RT.kdOf, RT.kind, hk]; rfl
  all_goals exact absurd h1 (by decide)
theorem apart_fit {x : RT} (h : Apart x) : fitT .doc (nodeT x) = nodeT x := fitT_all (apart_node h)
theorem apart_row : ∀ {ks : List RT}, (∀ x ∈ ks, Apart x) → ∀ u ∈ rowT ks, Kd.allows .doc u.kdOf = true
  | [], _, u, hu => by simp [rowT] at hu
  | x :: xs, h, u, hu => by
    rw [rowT] at hu
    rcases List.mem_append.1 hu with h1 | h1
    · exact apart_node (h x (by simp)) u h1
    · exact apart_row (fun y hy => h y (List.mem_cons_of_mem _ hy)) u h1
theorem apart_all {n r : Int} {k : ByteArray} {a : List Att} {ks : List RT} (h : ∀ x ∈ ks, Apart x) : repairT (.node n r k a [] ks) = .node n r sDoc a [] (rowT ks) := by
  rw [repairT, fitT_all (apart_row h)]
  simp [toldT]
theorem apart_one {x : RT} (h : Apart x) : repairT (.node 0 0 sDoc [] [] [x]) = .node 0 0 sDoc [] [] (nodeT x) := by
  rw [repairT, rowT_one, apart_fit h]
  simp [toldT]
theorem repair_doc (x : RT) : ∃ l, repairT (.node 0 0 sDoc [] [] [x]) = .node 0 0 sDoc [] [] l ∧ (Apart x → l = nodeT x) ∧ l.length ≤ 5 * rsize x + 10 := by
  refine ⟨fitT .doc (nodeT x), by rw [repairT, rowT_one]; simp [toldT], fun h => apart_fit h, ?_⟩
  have h1 := outOf_len .doc (runsBy (fun t => srt .doc t.kdOf) (nodeT x)) fun q hq => (runsBy_all _ _ q hq).1
  rw [runsBy_flat] at h1
  have h2 := nodeT_size x
  have h3 := rsizeL_len (nodeT x)
  rw [fitT_out]
  omega

/-- what holds at the head of a round -/
structure ApAt (W : World) (n₀ gm : Nat) (nb : Array Value) (mb : Value → Array Value) (ks : List RT) (i : Nat) (v : Value) (zs : List (Z RT 6)) (wr : World) : Prop where
  boxN : BoxN wr W.heap.size nb 31
  boxM : BoxN wr gm (mb v) 31
  row : Row wr n₀ (fun b => b < W.heap.size) v zs
  eq : vz zs = rowT (ks.take i)
  ok : ∀ j x, j < i → ks[j]? = some x → Apart x
  below : Below W.heap.size W wr
  hn : n₀ ≤ wr.heap.size
  gm_lt : gm < n₀
  hW : W.heap.size < n₀
end Go.Proofs.Ytcdhndhgainadaa
