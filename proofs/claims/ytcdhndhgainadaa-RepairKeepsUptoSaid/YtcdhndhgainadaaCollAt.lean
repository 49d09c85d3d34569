/-
  A round that collects into a captured slice variable, step by step: calls that make memory, appends, the store back. And the steps of a drawn region by hand.
-/
import Derived.Test.YtcdhndhgainadaaAppIn
import Derived.Test.YtcdhndhgainadaaRoundAny
import Derived.OrdersHeld
namespace Go.Proofs.Ytcdhndhgainadaa
open Go Go.RowKit

/-- From W to W' (inside one round): the box Bo still holds v0, the row v owns xs, and nothing that lay elsewhere has turned. -/
structure CollAt (T : Nat → Prop) (n₀ Bo : Nat) (t e : TypeId) (size : Nat) (v0 : Value) (W W' : World) (v : Value) (k : Nat) (xs : List Value) : Prop where
  box : Boxed W' Bo t v0
  row : W'.ownsRow n₀ e size v k xs
  keeps : KeepsT T W W'
  below : Below n₀ W W'
  notT : ∀ g, v.ownBlock = some g → ¬ T g
  notB : ¬ T Bo
  inW : ∀ j, T j → j < W.heap.size
  base : n₀ ≤ W.heap.size
  lowB : n₀ ≤ Bo

section
variable {T : Nat → Prop} {n₀ Bo : Nat} {t e : TypeId} {size : Nat} {v0 v v' : Value} {W W1 W2 : World} {k m : Nat} {xs ys : List Value}
theorem CollAt.start (hv : Boxed W Bo t v) (hnB : ¬ T Bo) (hrow : W.ownsRow n₀ e size v k xs) (hng : ∀ g, v.ownBlock = some g → ¬ T g) (hT : ∀ j, T j → j < W.heap.size) (hn₀ : n₀ ≤ W.heap.size) (hB : n₀ ≤ Bo) :
    CollAt T n₀ Bo t e size v W W v k xs := ⟨hv, hrow, KeepsT.refl _ _, Below.refl _ _, hng, hnB, hT, hn₀, hB⟩
theorem CollAt.next (h : CollAt T n₀ Bo t e size v0 W W1 v k xs) (hb : Below W1.heap.size W1 W2) : CollAt T n₀ Bo t e size v0 W W2 v k xs :=
  ⟨(hb.block _ h.box.lt).trans h.box, own_heap h.row fun g eg => hb.block g (h.row.lt g eg).2, h.keeps.trans (KeepsT.of_below hb fun j hj => Nat.lt_of_lt_of_le (h.inW j hj) h.keeps.size), h.below.trans (hb.mono (Nat.le_trans h.base h.below.size)), h.notT, h.notB, h.inW, h.base, h.lowB⟩
theorem CollAt.drew (h : CollAt T n₀ Bo t e size v0 W W1 v k xs) : CollAt T n₀ Bo t e size v0 W W1.drew v k xs := h.next (Below.refl _ _).drew
theorem CollAt.alloc (h : CollAt T n₀ Bo t e size v0 W W1 v k xs) (o : Obj) : CollAt T n₀ Bo t e size v0 W (W1.alloc o) v k xs := h.next ((Below.refl _ _).alloc (Nat.le_refl _) o)
/-- behind an append -/
theorem CollAt.app (h : CollAt T n₀ Bo t e size v0 W W1 v k xs) (hte : t ≠ e) (hown : W2.ownsRow n₀ e size v' m ys) (hg : W1.grownBy W2 v.ownBlock) (hat : ∀ g, v'.ownBlock = some g → v.ownBlock = some g ∨ W1.heap.size = g) :
    CollAt T n₀ Bo t e size v0 W W2 v' m ys :=
  ⟨h.box.kept hg (h.box.not_row hte h.row), hown, h.keeps.trans (KeepsT.of_grownBy hg (fun j hj => Nat.lt_of_lt_of_le (h.inW j hj) h.keeps.size) (fun g eg => h.notT g eg)),
    h.below.grown hg (Nat.le_trans h.base h.below.size) (fun g eg => (h.row.lt g eg).1), fun g eg hT => by
      rcases hat g eg with h1 | h1
      · exact h.notT g h1 hT
      · have := h.inW g hT; have := h.keeps.size; omega, h.notB, h.inW, h.base, h.lowB⟩
/-- behind the store -/
theorem CollAt.done (h : CollAt T n₀ Bo t e size v0 W W1 v k xs) (hte : t ≠ e) : KeepsT T W (W1.setCell ⟨Bo, 0, none⟩ v) ∧ Below n₀ W (W1.setCell ⟨Bo, 0, none⟩ v) ∧ Coll T (W1.setCell ⟨Bo, 0, none⟩ v) n₀ Bo t e size k xs :=
  ⟨h.keeps.setCell h.notB v, h.below.setCell (p := ⟨Bo, 0, none⟩) h.lowB v, v, h.box.set v, h.notB, h.row.kept (grownBy_setCell' W1 Bo v) (.inr (h.box.not_row hte h.row).symm), h.notT⟩
end

/-! ### a drawn region, by hand -/
section
variable {P : Program} {ops : Array Oper} {Q : Exit → Act → World → Prop} {md : Region.Mode}
theorem any_one {i : Nat} {o : Oper} {fuel : Nat} {listed : Array Bool} {a : Act} {w : World} (hr : Region.ready md ops listed = [i]) (ho : ops[i]? = some o) (hg : o.guard = none)
    (h : o.wp P a w (wpAny P md ops Q fuel (listed.setIfInBounds i true)) Q) : wpAny P md ops Q (fuel + 1) listed a w :=
  wpAny_all hr (by simp) fun j hj => by
    obtain rfl : j = i := by simpa using hj
    unfold wpOp
    simp only [ho, Region.wanted, hg, if_true]
    exact .inl h
/-- one that yields in whatever world, taken first -/
theorem any_take {i : Nat} {o : Oper} {v : Value} {fuel : Nat} {listed : Array Bool} {a : Act} {w : World} (ho : ops[i]? = some o) (hg : o.guard = none) (hs : Region.noSelect ops = true) (hf : Region.free md ops listed i = true)
    (hr : (Region.ready md ops listed).contains i = true) (hQ : ∀ c a w, Q (.panic c) (a.put o.dst v) w → Q (.panic c) a w) (hy : ∀ w, (execOp a.eval o).run P w = .ok (.value v) w)
    (h : wpAny P md ops Q fuel (listed.setIfInBounds i true) (a.put o.dst v) w) : wpAny P md ops Q (fuel + 1) listed a w :=
  wpAny_take ho hs hf hr hQ (.inl ⟨by simp [Region.wanted, hg], hy⟩) h
theorem wp_call {f : Nat} {o : Oper} {a : Act} {w : World} {xs : Array Operand} {ts : Array TypeId} {R : Ending → World → Prop} {K : Act → World → Prop}
    (hop : o.op = .call { callee := .value (.func f), args := xs, argTypes := ts })
    (ef : ∀ args w, (callFunc f args).run P w = .ok (.enter f args) w) (vs : List Value) (hvs : xs.toList.map a.eval = vs) (hc : Calls P f vs.toArray w R)
    (hk : ∀ e w', R e w' → ∃ v, e = .returned v ∧ K (a.put o.dst v) w') : o.wp P a w K Q := by
  have hvs' : xs.map a.eval = vs.toArray := by subst hvs; cases xs with | mk l => exact List.map_toArray (f := a.eval) (l := l)
  have hrun : (execOp a.eval o).run P w = .ok (.enter f vs.toArray) w := by
    unfold execOp
    simp only [hop, resolve, hvs']
    simp [invoke, go_sem, ef, Act.eval]
  unfold Oper.wp
  rw [hrun]
  refine Calls.mono hc fun e w' he => ?_
  obtain ⟨v, rfl, h1⟩ := hk e w' he
  exact h1
/-- a call of a Go function, the only one that may come up -/
theorem any_call {i f : Nat} {o : Oper} {fuel : Nat} {listed : Array Bool} {a : Act} {w : World} {xs : Array Operand} {ts : Array TypeId} {R : Ending → World → Prop}
    (hr : Region.ready md ops listed = [i]) (ho : ops[i]? = some o) (hg : o.guard = none) (hop : o.op = .call { callee := .value (.func f), args := xs, argTypes := ts })
    (ef : ∀ args w, (callFunc f args).run P w = .ok (.enter f args) w) (vs : List Value) (hvs : xs.toList.map a.eval = vs) (hc : Calls P f vs.toArray w R)
    (hk : ∀ e w', R e w' → ∃ v, e = .returned v ∧ wpAny P md ops Q fuel (listed.setIfInBounds i true) (a.put o.dst v) w') : wpAny P md ops Q (fuel + 1) listed a w :=
  any_one hr ho hg (wp_call hop ef vs hvs hc hk)
/-- a load and a call may come up, in either order -/
theorem any_load_call {i j f : Nat} {oi oj : Oper} {v : Value} {fuel : Nat} {listed : Array Bool} {a : Act} {w : World} {xs : Array Operand} {ts : Array TypeId} {R : Ending → World → Prop}
    (hr : Region.ready md ops listed = [i, j]) (hri : Region.ready md ops (listed.setIfInBounds i true) = [j]) (hrj : Region.ready md ops (listed.setIfInBounds j true) = [i]) (hne : i ≠ j)
    (hoi : ops[i]? = some oi) (hoj : ops[j]? = some oj) (hgi : oi.guard = none) (hgj : oj.guard = none) (hd : ∀ d, oi.dst = some d → oj.dst ≠ some d)
    (hop : oj.op = .call { callee := .value (.func f), args := xs, argTypes := ts })
    (ef : ∀ args w, (callFunc f args).run P w = .ok (.enter f args) w) (vs : List Value) (hvs : xs.toList.map a.eval = vs) (hvs2 : xs.toList.map (a.put oi.dst v).eval = vs)
    (hs : Region.noSelect ops = true) (hl : (match oj.dst with | some d => (oi.looksAt ops).contains d | none => false) = false)
    (hc : Calls P f vs.toArray w R) (hyi : (execOp a.eval oi).run P w = .ok (.value v) w)
    (hk : ∀ e w', R e w' → ∃ u, e = .returned u ∧ (execOp a.eval oi).run P w' = .ok (.value v) w' ∧
      wpAny P md ops Q fuel ((listed.setIfInBounds i true).setIfInBounds j true) ((a.put oi.dst v).put oj.dst u) w') : wpAny P md ops Q (fuel + 1 + 1) listed a w := by
  refine wpAny_all hr (by simp) fun m hm => ?_
  rcases List.mem_cons.1 hm with rfl | hm
  · unfold wpOp
    simp only [hoi, Region.wanted, hgi, if_true]
    refine .inl ?_
    unfold Oper.wp
    rw [hyi]
    refine any_call hri hoj hgj hop ef vs hvs2 hc fun e w' he => ?_
    obtain ⟨u, rfl, _, h2⟩ := hk e w' he
    exact ⟨u, rfl, h2⟩
  · obtain rfl : m = j := by simpa using hm
    unfold wpOp
    simp only [hoj, Region.wanted, hgj, if_true]
    refine .inl (wp_call hop ef vs hvs hc fun e w' he => ?_)
    obtain ⟨u, rfl, h1, h2⟩ := hk e w' he
    refine ⟨u, rfl, any_one hrj hoi hgi ?_⟩
    unfold Oper.wp
    rw [execOp_put oi (fun cs b => Region.noSelect_spec hs _ oi cs b hoi) a oj.dst u (fun d hd hm => by rw [hd] at hl; simp only at hl; rw [List.contains_iff_mem.2 hm] at hl; cases hl), h1]
    show wpAny P md ops Q fuel _ ((a.put oj.dst u).put oi.dst v) w'
    rw [← Act.put_comm a v u hd, Array.setIfInBounds_comm _ _ (Ne.symm hne)]
    exact h2
/-- append, at one operation -/
theorem wp_app {o : Oper} {a : Act} {w : World} {K : Act → World → Prop} (s x : Operand) (t : TypeId)
    (ho : o.op = .call { callee := .builtin .append, args := #[s, x], argTypes := #[t, t] })
    (base : Nat) (e : TypeId) (z : Value) (size bytes : Nat) (ht : P.underlying t = some (.slice e)) (hinf : (P.info? e).map (fun i => (i.zero, i.size, i.bytes)) = some (some z, size, bytes))
    (hzs : z.cells.size = size) (hsz : 0 < size)
    (v : Value) (n : Nat) (xs : List Value) (hs : a.eval s = v) (hown : w.ownsRow base e size v n xs)
    (B : Nat) (A : Option Addr) (m c : Nat) (news : List Value) (hx : a.eval x = .slice A m c) (hr : Rd w B size A m news) (h1 : ∀ u ∈ news, u.oneCell' = true)
    (h63 : n + m ≤ maxLen) (hbytes : (n + m) * bytes ≤ 140737488355328) (hbase : base ≤ w.heap.size)
    (h : ∀ A' c' w', w'.ownsRow base e size (.slice A' (n + m) c') (n + m) (xs ++ news) → w.grownBy w' v.ownBlock → (∀ g, (Value.slice A' (n + m) c').ownBlock = some g → v.ownBlock = some g ∨ w.heap.size = g) →
      K (a.put o.dst (.slice A' (n + m) c')) w') : o.wp P a w K Q := by
  obtain ⟨A', c', w', hrun, r1, r2, r3⟩ := run_app_at (P := P) w base t o.type e z size bytes ht hinf hzs hsz v n xs hown B A m c news hr h1 h63 hbytes hbase
  unfold Oper.wp execOp
  simp only [ho, resolve, invoke, builtin, Sem.run_bind, Sem.run_pure, Result.andThen_ok, List.map_toArray, List.map_cons, List.map_nil, hs, hx, hrun]
  exact h A' c' w' r1 r2 r3
/-- append, as a step of a region that draws (for go_region_law) -/
theorem step_app {o : Oper} {a : Act} {w : World} {K : Act → World → Prop} {E : Prop} (hgd : o.guard = none) (s x : Operand) (t : TypeId)
    (ho : o.op = .call { callee := .builtin .append, args := #[s, x], argTypes := #[t, t] })
    (base : Nat) (e : TypeId) (z : Value) (size bytes : Nat) (ht : P.underlying t = some (.slice e)) (hinf : (P.info? e).map (fun i => (i.zero, i.size, i.bytes)) = some (some z, size, bytes))
    (hzs : z.cells.size = size) (hsz : 0 < size)
    (v : Value) (n : Nat) (xs : List Value) (hs : a.eval s = v) (hown : w.ownsRow base e size v n xs)
    (B : Nat) (A : Option Addr) (m c : Nat) (news : List Value) (hx : a.eval x = .slice A m c) (hr : Rd w B size A m news) (h1 : ∀ u ∈ news, u.oneCell' = true)
    (h63 : n + m ≤ maxLen) (hbytes : (n + m) * bytes ≤ 140737488355328) (hbase : base ≤ w.heap.size)
    (h : ∀ A' c' w', w'.ownsRow base e size (.slice A' (n + m) c') (n + m) (xs ++ news) → w.grownBy w' v.ownBlock → (∀ g, (Value.slice A' (n + m) c').ownBlock = some g → v.ownBlock = some g ∨ w.heap.size = g) →
      K (a.put o.dst (.slice A' (n + m) c')) w') : if Region.wanted o (yielded ops a.tmps) = true then o.wp P a w K Q else E := by
  rw [if_pos (by simp [Region.wanted, hgd])]
  exact wp_app s x t ho base e z size bytes ht hinf hzs hsz v n xs hs hown B A m c news hx hr h1 h63 hbytes hbase h
end
end Go.Proofs.Ytcdhndhgainadaa
