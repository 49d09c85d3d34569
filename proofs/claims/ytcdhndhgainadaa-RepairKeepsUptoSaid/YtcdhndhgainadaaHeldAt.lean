/-
  A drawn region by hand, WHERE LOADS AND CALLS MINGLE: S is what all loads rest on; each call shows it anew. One row an operation.
-/
import Derived.Test.YtcdhndhgainadaaAppAt
import Derived.OrdersHeld
namespace Go.Proofs.Ytcdhndhgainadaa
open Go Go.RowKit

section
variable {P : Program} {ops : Array Oper} {Q : Exit → Act → World → Prop} {md : Region.Mode} {S : World → Prop}
theorem held_take {i : Nat} {o : Oper} {v : Value} {fuel : Nat} {listed : Array Bool} {a : Act} {w : World} (ho : ops[i]? = some o) (hs : Region.noSelect ops = true) (hf : Region.free md ops listed i = true)
    (hr : (Region.ready md ops listed).contains i = true) (hQ : ∀ c a w, Q (.panic c) (a.put o.dst v) w → Q (.panic c) a w) (hw : Region.wanted o (yielded ops a.tmps) = true)
    (hy : ∀ w, S w → (execOp a.eval o).run P w = .ok (.value v) w) (hS : S w)
    (h : wpAnyH P md ops Q S fuel (listed.setIfInBounds i true) (a.put o.dst v) w) : wpAnyH P md ops Q S (fuel + 1) listed a w :=
  wpAnyH_take ho hs hf hr hQ (.inl ⟨hw, hy⟩) hS h
theorem held_skip {i : Nat} {o : Oper} {fuel : Nat} {listed : Array Bool} {a : Act} {w : World} (ho : ops[i]? = some o) (hs : Region.noSelect ops = true) (hf : Region.free md ops listed i = true)
    (hr : (Region.ready md ops listed).contains i = true) (hQ : ∀ c a w, Q (.panic c) (a.put o.dst undef) w → Q (.panic c) a w) (hw : Region.wanted o (yielded ops a.tmps) = false) (hS : S w)
    (h : wpAnyH P md ops Q S fuel (listed.setIfInBounds i true) (a.put o.dst undef) w) : wpAnyH P md ops Q S (fuel + 1) listed a w :=
  wpAnyH_take ho hs hf hr hQ (.inr ⟨hw, rfl⟩) hS h
/-- the only one that may come up -/
theorem held_one {i : Nat} {o : Oper} {fuel : Nat} {listed : Array Bool} {a : Act} {w : World} (hr : Region.ready md ops listed = [i]) (ho : ops[i]? = some o) (hw : Region.wanted o (yielded ops a.tmps) = true)
    (h : o.wp P a w (fun a' w' => S w' ∧ wpAnyH P md ops Q S fuel (listed.setIfInBounds i true) a' w') Q) : wpAnyH P md ops Q S (fuel + 1) listed a w :=
  wpAnyH_all hr (by simp) fun j hj => by
    obtain rfl : j = i := by simpa using hj
    unfold wpOp
    simp only [ho, hw, if_true]
    exact .inl h
theorem held_call {i f : Nat} {o : Oper} {fuel : Nat} {listed : Array Bool} {a : Act} {w : World} {xs : Array Operand} {ts : Array TypeId} {R : Ending → World → Prop}
    (hr : Region.ready md ops listed = [i]) (ho : ops[i]? = some o) (hw : Region.wanted o (yielded ops a.tmps) = true) (hop : o.op = .call { callee := .value (.func f), args := xs, argTypes := ts })
    (ef : ∀ args w, (callFunc f args).run P w = .ok (.enter f args) w) (vs : List Value) (hvs : xs.toList.map a.eval = vs) (hc : Calls P f vs.toArray w R)
    (hk : ∀ e w', R e w' → ∃ v, e = .returned v ∧ S w' ∧ wpAnyH P md ops Q S fuel (listed.setIfInBounds i true) (a.put o.dst v) w') : wpAnyH P md ops Q S (fuel + 1) listed a w :=
  held_one hr ho hw (wp_call hop ef vs hvs hc fun e w' he => let ⟨v, h1, h2, h3⟩ := hk e w' he; ⟨v, h1, h2, h3⟩)
/-- a call of a closure -/
theorem wp_callc {f : Nat} {o : Oper} {a : Act} {w : World} {x : Operand} {xs : Array Operand} {ts : Array TypeId} {lb : Array Value} {R : Ending → World → Prop} {K : Act → World → Prop}
    (hop : o.op = .call { callee := .value x, args := xs, argTypes := ts }) (hx : a.eval x = .func (.func f) #[] lb)
    (ef : ∀ args w, (callFunc f args).run P w = .ok (.enter f args) w) (vs : List Value) (hvs : xs.toList.map a.eval = vs) (hc : Calls P f (vs.toArray ++ lb) w R)
    (hk : ∀ e w', R e w' → ∃ v, e = .returned v ∧ K (a.put o.dst v) w') : o.wp P a w K Q := by
  have hvs' : xs.map a.eval = vs.toArray := by subst hvs; cases xs with | mk l => exact List.map_toArray (f := a.eval) (l := l)
  have hrun : (execOp a.eval o).run P w = .ok (.enter f (vs.toArray ++ lb)) w := by
    unfold execOp
    simp only [hop, resolve, hvs', hx]
    simp [invoke, go_sem, ef]
  unfold Oper.wp
  rw [hrun]
  refine Calls.mono hc fun e w' he => ?_
  obtain ⟨v, rfl, h1⟩ := hk e w' he
  exact h1
theorem held_callc {i f : Nat} {o : Oper} {fuel : Nat} {listed : Array Bool} {a : Act} {w : World} {x : Operand} {xs : Array Operand} {ts : Array TypeId} {lb : Array Value} {R : Ending → World → Prop}
    (hr : Region.ready md ops listed = [i]) (ho : ops[i]? = some o) (hw : Region.wanted o (yielded ops a.tmps) = true) (hop : o.op = .call { callee := .value x, args := xs, argTypes := ts }) (hx : a.eval x = .func (.func f) #[] lb)
    (ef : ∀ args w, (callFunc f args).run P w = .ok (.enter f args) w) (vs : List Value) (hvs : xs.toList.map a.eval = vs) (hc : Calls P f (vs.toArray ++ lb) w R)
    (hk : ∀ e w', R e w' → ∃ v, e = .returned v ∧ S w' ∧ wpAnyH P md ops Q S fuel (listed.setIfInBounds i true) (a.put o.dst v) w') : wpAnyH P md ops Q S (fuel + 1) listed a w :=
  held_one hr ho hw (wp_callc hop hx ef vs hvs hc fun e w' he => let ⟨v, h1, h2, h3⟩ := hk e w' he; ⟨v, h1, h2, h3⟩)
end
end Go.Proofs.Ytcdhndhgainadaa
