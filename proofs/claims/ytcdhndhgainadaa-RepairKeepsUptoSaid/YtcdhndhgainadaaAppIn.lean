/-
  append in a round of a range over a function, with the block where the new slice lies.
-/
import Derived.Test.YtcdhndhgainadaaKit
import Derived.Test.YtcdhndhgainadaaRangeOwn
import Derived.OwnWalkIn
import Derived.Maps.AppendAt
namespace Go.Proofs.Ytcdhndhgainadaa
open Go Go.RowKit

section
variable {P : Program} (w : World)
theorem run_app_at (base : Nat) (t ty e : TypeId) (z : Value) (size bytes : Nat) (ht : P.underlying t = some (.slice e)) (hinf : (P.info? e).map (fun i => (i.zero, i.size, i.bytes)) = some (some z, size, bytes))
    (hzs : z.cells.size = size) (hsz : 0 < size)
    (v : Value) (n : Nat) (xs : List Value) (hown : w.ownsRow base e size v n xs)
    (B : Nat) (A : Option Addr) (m c : Nat) (news : List Value) (hr : Rd w B size A m news) (h1 : ∀ u ∈ news, u.oneCell' = true)
    (h63 : n + m ≤ maxLen) (hbytes : (n + m) * bytes ≤ 140737488355328) (hbase : base ≤ w.heap.size) :
    ∃ A' c' w', (Builtin.append_ #[t, t] ty #[v, .slice A m c]).run P w = .ok (.slice A' (n + m) c') w' ∧ w'.ownsRow base e size (.slice A' (n + m) c') (n + m) (xs ++ news) ∧ w.grownBy w' v.ownBlock ∧
      (∀ g, (Value.slice A' (n + m) c').ownBlock = some g → v.ownBlock = some g ∨ w.heap.size = g) := by
  obtain ⟨i, hi, hz, hsize, hby⟩ := info_parts hinf
  rcases Nat.eq_zero_or_pos m with h0 | h0
  · subst h0
    have hn : news = [] := List.eq_nil_of_length_eq_zero (by simpa using hr.1)
    subst hn
    obtain ⟨A', c', rfl, _, _⟩ := own_slice hown
    exact ⟨A', c', w, run_app_none w base t ty e i size ht hi _ n xs hown A c, by simpa using hown, World.grownBy.refl w _, fun g hg => .inl hg⟩
  · obtain ⟨b, off, rfl, _, hc⟩ := hr.at_ h0
    obtain ⟨v', w', hrun, h2, h3, _, h4⟩ := run_append_own_at (P := P) w base t ty e i z size bytes ht hi hz hsize hby hzs hsz v n xs hown ⟨b, off, none⟩ m c news hr.1 (fun j u hu => by rw [addr_add]; exact hc j u hu) h1 h63 hbytes hbase
    obtain ⟨A', c', rfl, _, _⟩ := own_slice h2
    refine ⟨A', c', w', hrun, h2, h3, fun g hg => ?_⟩
    rw [hg] at h4
    rcases h4 with h4 | h4
    · exact .inl h4.symm
    · injection h4 with h4; exact .inr h4.symm

theorem wpListIn_app {F : Fence} {d : Nat} {ops : Array Oper} {rest : List Oper} {o : Oper} {a : Act} {Q : Exit → Act → World → Prop} (hgd : o.guard = none) (s x : Operand) (t : TypeId)
    (ho : o.op = .call { callee := .builtin .append, args := #[s, x], argTypes := #[t, t] })
    (base : Nat) (e : TypeId) (z : Value) (size bytes : Nat) (ht : P.underlying t = some (.slice e)) (hinf : (P.info? e).map (fun i => (i.zero, i.size, i.bytes)) = some (some z, size, bytes))
    (hzs : z.cells.size = size) (hsz : 0 < size)
    (v : Value) (n : Nat) (xs : List Value) (hs : a.eval s = v) (hown : w.ownsRow base e size v n xs)
    (B : Nat) (A : Option Addr) (m c : Nat) (news : List Value) (hx : a.eval x = .slice A m c) (hr : Rd w B size A m news) (h1 : ∀ u ∈ news, u.oneCell' = true)
    (h63 : n + m ≤ maxLen) (hbytes : (n + m) * bytes ≤ 140737488355328) (hbase : base ≤ w.heap.size)
    (h : ∀ A' c' w', w'.ownsRow base e size (.slice A' (n + m) c') (n + m) (xs ++ news) → w.grownBy w' v.ownBlock → (∀ g, (Value.slice A' (n + m) c').ownBlock = some g → v.ownBlock = some g ∨ w.heap.size = g) →
      wpListIn F d P ops Q rest (a.put o.dst (.slice A' (n + m) c')) w') : wpListIn F d P ops Q (o :: rest) a w := by
  refine wpListIn_plain hgd fun K hK' => ?_
  obtain ⟨A', c', w', hrun, r1, r2, r3⟩ := run_app_at (P := P) w base t o.type e z size bytes ht hinf hzs hsz v n xs hown B A m c news hr h1 h63 hbytes hbase
  unfold Oper.wpIn
  refine ⟨?_, ?_⟩
  · simp [Oper.about, ho, resolve, Target.leads, Sem.run_pure]
  · rw [Oper.semAt_plain F _ _ (by rw [ho]; intro c hc'; cases hc')]
    simp [execOp, ho, resolve, invoke, builtin, hs, hx, hrun, Result.andThen]
    exact hK' _ _ (h A' c' w' r1 r2 r3)
end

theorem rd_alloc (w : World) (cs : Array Value) (t : TypeId) (c : Nat × Nat) (m size : Nat) (hl : cs.size = m * size) : Rd (w.alloc (.cells cs t c)) (w.heap.size + 1) size (some ⟨w.heap.size, 0, none⟩) m cs.toList := by
  refine ⟨by simpa using hl, .inr ⟨w.heap.size, 0, rfl, by omega, fun j u hu => ?_⟩⟩
  have h1 : (w.alloc (.cells cs t c)).heap[w.heap.size]? = some (.cells cs t c) := World.alloc_heap_new w _
  have h2 : (w.alloc (.cells cs t c)).cell? ⟨w.heap.size, 0 + j, none⟩ = cs[0 + j]? := by
    unfold World.cell?
    rw [h1]; rfl
  rw [h2, Nat.zero_add]
  simpa using hu
end Go.Proofs.Ytcdhndhgainadaa
