/-
  A round that collects nodes into a captured slice variable: what holds between its steps.
-/
import Derived.Test.YtcdhndhgainadaaNIter
namespace Go.Proofs.Ytcdhndhgainadaa
open Go Go.RowKit
set_option linter.unusedVariables false
set_option linter.unusedSimpArgs false

/-- the footprint that a collected row may have: S and what is new, but no block of T, and not the variable's box -/
def Ft (n₀ : Nat) (S T : Nat → Prop) (Bo : Nat) : Nat → Prop := fun b => S b ∨ (n₀ ≤ b ∧ ¬ T b ∧ b ≠ Bo)
/-- a row of the call's own, of footprint F -/
structure RowG (w : World) (n₀ : Nat) (F : Nat → Prop) (v : Value) (zs : List (Z RT 6)) : Prop where
  own : w.ownsRow n₀ 31 6 v zs.length (cz zs)
  all : ∀ z ∈ zs, NdF w (fun b => F b ∧ v.ownBlock ≠ some b) z.1.1 z.1.2
section
variable {w w' : World} {F F' : Nat → Prop} {n₀ : Nat} {v v' : Value} {zs zs' : List (Z RT 6)}
theorem RowG.nil (w : World) (n₀ : Nat) (F : Nat → Prop) : RowG w n₀ F (.slice none 0 0) [] := ⟨World.ownsRow_nil _ _ _ _, by simp⟩
theorem RowG.low (h : RowG w n₀ F v zs) : ∀ g, v.ownBlock = some g → n₀ ≤ g ∧ g < w.heap.size := fun g hg => h.own.lt g hg
theorem RowG.weaken (h : RowG w n₀ F v zs) (hS : ∀ b, F b → F' b) : RowG w n₀ F' v zs := ⟨h.own, fun z hz => (h.all z hz).stay (.weaken w fun b _ hb => ⟨hS b hb.1, hb.2⟩)⟩
theorem RowG.below (h : RowG w n₀ F v zs) (hb : Below w.heap.size w w') : RowG w' n₀ F v zs :=
  ⟨own_heap h.own fun g eg => hb.block g (h.own.lt g eg).2, fun z hz => (h.all z hz).stay (.below hb fun _ _ h => h)⟩
theorem RowG.app (h : RowG w n₀ F v zs) (hF : ¬ F w.heap.size ∨ True) (hnew : ∀ z ∈ zs', NdF w (fun b => F b ∧ v.ownBlock ≠ some b) z.1.1 z.1.2)
    (hown : w'.ownsRow n₀ 31 6 v' (zs.length + zs'.length) (cz zs ++ cz zs')) (hg : w.grownBy w' v.ownBlock) (hat : ∀ g, v'.ownBlock = some g → v.ownBlock = some g ∨ w.heap.size = g) : RowG w' n₀ F v' (zs ++ zs') := by
  refine ⟨by rw [List.length_append, cz_append]; exact hown, fun z hz => ?_⟩
  have hst : Stay w w' (fun b => F b ∧ v.ownBlock ≠ some b) (fun b => F b ∧ v'.ownBlock ≠ some b) := ⟨hg.size, fun b hb hs => ⟨hs.1, fun e => by
    rcases hat b e with h1 | h1
    · exact hs.2 h1
    · omega⟩, fun b hb hs => hg.block b hb fun e => hs.2 e.symm⟩
  rcases List.mem_append.1 hz with h1 | h1
  · exact (h.all z h1).stay hst
  · exact (hnew z h1).stay hst
/-- behind a store elsewhere -/
theorem RowG.setFar (h : RowG w n₀ F v zs) {p : Addr} (hp : ¬ F p.block ∨ v.ownBlock = some p.block) (hv : v.ownBlock ≠ some p.block) (u : Value) : RowG (w.setCell p u) n₀ F v zs :=
  ⟨ownsRow_setCell_other h.own hv u, fun z hz => (h.all z hz).stay ⟨by simp [World.setCell], fun _ _ h => h, fun b _ hb => Below.heap_setCell _ _ _ _ (fun e => by subst e; rcases hp with h1 | h1; exact h1 hb.1; exact hv h1)⟩⟩
end

/-- the row, read -/
theorem RowG.rd {w : World} {n₀ : Nat} {F S' : Nat → Prop} {A : Option Addr} {n c : Nat} {zs : List (Z RT 6)} (h : RowG w n₀ F (.slice A n c) zs) (hF : ∀ b, F b → S' b) (hS : ∀ b, n₀ ≤ b → S' b) : RdF w S' A n c (vz zs) := by
  obtain ⟨A', c', e, h1, h2⟩ := own_slice h.own
  injection e with e1 e2 e3
  subst e1 e2 e3
  have hr := Rd.of_own h.own
  refine ⟨zs, rfl, ⟨hr.1, hr.2.imp id ?_⟩, rfl, fun z hz => (h.all z hz).stay (.weaken w fun b hb hs => hF b hs.1), h1, h2⟩
  rintro ⟨b, off, e, hb, hc⟩
  refine ⟨b, off, e, hb, fun j u hu => only_cell.2 ⟨hS b ?_, hc j u hu⟩⟩
  subst e
  rcases h.own.2 with ⟨h3, -⟩ | ⟨g, cap, cur, h3, h4, h5⟩
  · cases h3
  · cases h3; exact h4

/-- From W to W' (inside one round): the box Bo still holds v0; the row v holds zs; nothing that lay elsewhere has turned. -/
structure CollS (T : Nat → Prop) (n₀ Bo : Nat) (S : Nat → Prop) (v0 : Value) (W W' : World) (v : Value) (zs : List (Z RT 6)) : Prop where
  box : Boxed W' Bo 29 v0
  row : RowG W' n₀ (Ft n₀ S T Bo) v zs
  keeps : KeepsT T W W'
  below : Below n₀ W W'
  notT : ∀ g, v.ownBlock = some g → ¬ T g
  notB : ¬ T Bo
  inW : ∀ j, T j → j < W.heap.size
  base : n₀ ≤ W.heap.size
  lowB : n₀ ≤ Bo
  lt : ∀ b, S b → b < n₀
  own0 : ∀ g, v.ownBlock = some g → v0.ownBlock = some g ∨ W.heap.size ≤ g
  rest : ∀ b, b < W.heap.size → b ≠ Bo → v0.ownBlock ≠ some b → W'.heap[b]? = W.heap[b]?

/-- block Bo is a variable's box, that holds a row of nodes of its own; neither it nor what the nodes rest on is of T. -/
structure CollN (T : Nat → Prop) (W : World) (n₀ Bo : Nat) (S : Nat → Prop) (zs : List (Z RT 6)) : Prop where
  ex : ∃ v, Boxed W Bo 29 v ∧ RowG W n₀ (Ft n₀ S T Bo) v zs ∧ ∀ g, v.ownBlock = some g → ¬ T g
  notB : ¬ T Bo
  low : ∀ k, T k → n₀ ≤ k
  lt : ∀ b, S b → b < n₀

theorem CollN.abides {n₀ Bo : Nat} {S : Nat → Prop} : AbidesT (fun (zs : List (Z RT 6)) T W => CollN T W n₀ Bo S zs ∧ n₀ ≤ W.heap.size) := by
  rintro zs T T' W W' ⟨⟨⟨v, hv, hr, hg⟩, hB, hlow, hlt⟩, hn⟩ hm ht
  refine ⟨⟨⟨v, (hm.block Bo hv.lt hB).trans hv, ⟨own_heap hr.own fun g e => hm.block g (hr.low g e).2 (hg g e), fun z hz => (hr.all z hz).stay ⟨hm.size, fun b hb h => ⟨h.1.imp id fun h => ⟨h.1, fun e => ?_, h.2.2⟩, h.2⟩, fun b hb h => hm.block b hb fun e => ?_⟩⟩, fun g e h' => ?_⟩, fun h' => ?_, fun k hk => ?_, hlt⟩, Nat.le_trans hn hm.size⟩
  · rcases ht _ e with h1 | h1
    · exact h.2.1 h1
    · omega
  · rcases h.1 with h1 | h1
    · have := hlow b e; have := hlt b h1; omega
    · exact h1.2.1 e
  · rcases ht _ h' with h1 | h1
    · exact hg g e h1
    · have := (hr.low g e).2; omega
  · rcases ht _ h' with h1 | h1
    · exact hB h1
    · have := hv.lt; omega
  · rcases ht _ hk with h1 | h1
    · exact hlow k h1
    · omega

section
variable {T U : Nat → Prop} {n₀ Bo : Nat} {S : Nat → Prop} {v0 v v' : Value} {W W1 W2 : World} {zs zs' : List (Z RT 6)}
theorem CollS.start (h : CollN (Both T U) W n₀ Bo S zs) (hT : ∀ j, T j → j < W.heap.size) (hn : n₀ ≤ W.heap.size) (hB : n₀ ≤ Bo) : ∃ v, Boxed W Bo 29 v ∧ (∀ g, v.ownBlock = some g → ¬ Both T U g) ∧ CollS T n₀ Bo S v W W v zs := by
  obtain ⟨⟨v, hv, hr, hg⟩, hnB, hlow, hlt⟩ := h
  exact ⟨v, hv, hg, hv, hr.weaken fun b h => h.imp id fun h => ⟨h.1, fun e => h.2.1 (.inl e), h.2.2⟩, KeepsT.refl _ _, Below.refl _ _, fun g e h => hg g e (.inl h), fun h => hnB (.inl h), hT, hn, hB, hlt, fun g h => .inl h, fun _ _ _ _ => rfl⟩
theorem CollS.next (h : CollS T n₀ Bo S v0 W W1 v zs) (hb : Below W1.heap.size W1 W2) : CollS T n₀ Bo S v0 W W2 v zs :=
  ⟨(hb.block _ h.box.lt).trans h.box, h.row.below hb, h.keeps.trans (KeepsT.of_below hb fun j hj => Nat.lt_of_lt_of_le (h.inW j hj) h.keeps.size), h.below.trans (hb.mono (Nat.le_trans h.base h.below.size)), h.notT, h.notB, h.inW, h.base, h.lowB, h.lt, h.own0, fun b h1 h2 h3 => (hb.block b (Nat.lt_of_lt_of_le h1 h.keeps.size)).trans (h.rest b h1 h2 h3)⟩
theorem CollS.app (h : CollS T n₀ Bo S v0 W W1 v zs) (hnew : ∀ z ∈ zs', NdF W1 (fun b => Ft n₀ S T Bo b ∧ v.ownBlock ≠ some b) z.1.1 z.1.2)
    (hown : W2.ownsRow n₀ 31 6 v' (zs.length + zs'.length) (cz zs ++ cz zs')) (hg : W1.grownBy W2 v.ownBlock) (hat : ∀ g, v'.ownBlock = some g → v.ownBlock = some g ∨ W1.heap.size = g) : CollS T n₀ Bo S v0 W W2 v' (zs ++ zs') :=
  ⟨h.box.kept hg (h.box.not_row (by decide) h.row.own), h.row.app (.inr trivial) hnew hown hg hat, h.keeps.trans (KeepsT.of_grownBy hg (fun j hj => Nat.lt_of_lt_of_le (h.inW j hj) h.keeps.size) (fun g eg => h.notT g eg)),
    h.below.grown hg (Nat.le_trans h.base h.below.size) (fun g eg => (h.row.low g eg).1), fun g eg hT => by
      rcases hat g eg with h1 | h1
      · exact h.notT g h1 hT
      · have := h.inW g hT; have := h.keeps.size; omega, h.notB, h.inW, h.base, h.lowB, h.lt, fun g eg => (hat g eg).elim (h.own0 g) (fun e => .inr (by have := h.keeps.size; omega)), fun b h1 h2 h3 => (hg.block b (Nat.lt_of_lt_of_le h1 h.keeps.size) (fun e => by
      rcases h.own0 b e.symm with h4 | h4
      · exact h3 h4
      · omega)).trans (h.rest b h1 h2 h3)⟩
/-- behind the store into the variable -/
theorem CollS.done (h : CollS T n₀ Bo S v0 W W1 v zs) (hlow : ∀ k, T k → n₀ ≤ k) : KeepsT T W (W1.setCell ⟨Bo, 0, none⟩ v) ∧ Below n₀ W (W1.setCell ⟨Bo, 0, none⟩ v) ∧ CollN T (W1.setCell ⟨Bo, 0, none⟩ v) n₀ Bo S zs ∧
    (∀ b, b < W.heap.size → b ≠ Bo → v0.ownBlock ≠ some b → (W1.setCell ⟨Bo, 0, none⟩ v).heap[b]? = W.heap[b]?) := by
  have hne := h.box.not_row (by decide) h.row.own
  refine ⟨h.keeps.setCell h.notB v, h.below.setCell (p := ⟨Bo, 0, none⟩) h.lowB v, ⟨⟨v, h.box.set v, h.row.setFar (p := ⟨Bo, 0, none⟩) (.inl fun hF => ?_) (fun e => hne e.symm) v, h.notT⟩, h.notB, hlow, h.lt⟩, fun b h1 h2 h3 => (Below.heap_setCell _ _ _ _ h2).trans (h.rest b h1 h2 h3)⟩
  rcases hF with h1 | h1
  · have := h.lt _ h1; have := h.lowB; simp at *; omega
  · exact h1.2.2 rfl
end

/-- six cells stored -/
def six (w : World) (g o : Nat) (u0 u1 u2 u3 u4 u5 : Value) : World :=
  (((((w.setCell ⟨g, o, none⟩ u0).setCell ⟨g, o + 1, none⟩ u1).setCell ⟨g, o + 2, none⟩ u2).setCell ⟨g, o + 3, none⟩ u3).setCell ⟨g, o + 4, none⟩ u4).setCell ⟨g, o + 5, none⟩ u5
theorem setCell_comm {w : World} {p q : Addr} (h : p.block ≠ q.block) (u v : Value) : (w.setCell p u).setCell q v = (w.setCell q v).setCell p u := by
  unfold World.setCell
  simp only [World.mk.injEq, and_true]
  apply Array.ext_getElem?
  intro i
  simp only [Array.getElem?_modify]
  by_cases h1 : p.block = i <;> by_cases h2 : q.block = i
  · omega
  · simp [h1, h2]
  · simp [h1, h2]
  · simp [h1, h2]
theorem six_comm {w : World} {p : Addr} {g o : Nat} (h : p.block ≠ g) (v u0 u1 u2 u3 u4 u5 : Value) : six (w.setCell p v) g o u0 u1 u2 u3 u4 u5 = (six w g o u0 u1 u2 u3 u4 u5).setCell p v := by
  unfold six
  rw [setCell_comm (q := ⟨g, o, none⟩) h, setCell_comm (q := ⟨g, o + 1, none⟩) h, setCell_comm (q := ⟨g, o + 2, none⟩) h, setCell_comm (q := ⟨g, o + 3, none⟩) h, setCell_comm (q := ⟨g, o + 4, none⟩) h, setCell_comm (q := ⟨g, o + 5, none⟩) h]
theorem set_six (a : List Value) (z0 z1 z2 z3 z4 z5 u0 u1 u2 u3 u4 u5 : Value) {o : Nat} (ho : a.length = o) :
    ((((((a ++ [z0, z1, z2, z3, z4, z5]).set o u0).set (o + 1) u1).set (o + 2) u2).set (o + 3) u3).set (o + 4) u4).set (o + 5) u5 = a ++ [u0, u1, u2, u3, u4, u5] := by
  subst ho
  simp [List.set_append_right]
theorem grown_trans {a b c : World} {r : Option Nat} (h : a.grownBy b r) (k : b.grownBy c r) : a.grownBy c r :=
  ⟨k.os.trans h.os, k.tape.trans h.tape, k.output.trans h.output, Nat.le_trans h.size k.size, fun i hi hn => (k.block i (Nat.lt_of_lt_of_le hi h.size) hn).trans (h.block i hi hn)⟩
section
variable {T : Nat → Prop} {n₀ Bo : Nat} {S : Nat → Prop} {v0 : Value} {W W1 : World} {zs : List (Z RT 6)}
theorem CollS.store6 {g n c : Nat} {z : Z RT 6} {t : RT} {z0 z1 z2 z3 z4 z5 u0 u1 u2 u3 u4 u5 : Value} (h : CollS T n₀ Bo S v0 W W1 (.slice (some ⟨g, 0, none⟩) n c) (zs ++ [z])) (hz : z.1.1 = [z0, z1, z2, z3, z4, z5])
    (hu : NdF W1 (fun b => Ft n₀ S T Bo b ∧ (Value.slice (some ⟨g, 0, none⟩) n c).ownBlock ≠ some b) [u0, u1, u2, u3, u4, u5] t) :
    CollS T n₀ Bo S v0 W (six W1 g (zs.length * 6) u0 u1 u2 u3 u4 u5) (.slice (some ⟨g, 0, none⟩) n c) (zs ++ [⟨([u0, u1, u2, u3, u4, u5], t), rfl⟩]) := by
  have hn : n = (zs ++ [z]).length := by
    obtain ⟨A', c', e, -, -⟩ := own_slice h.row.own
    injection e
  have hbox := h.box.not_row (by decide) h.row.own
  have hown := h.row.own
  rw [← hn] at hown
  obtain ⟨o1, q1⟩ := hown.stored (zs.length * 6) u0
  obtain ⟨o2, q2⟩ := o1.stored (zs.length * 6 + 1) u1
  obtain ⟨o3, q3⟩ := o2.stored (zs.length * 6 + 2) u2
  obtain ⟨o4, q4⟩ := o3.stored (zs.length * 6 + 3) u3
  obtain ⟨o5, q5⟩ := o4.stored (zs.length * 6 + 4) u4
  obtain ⟨o6, q6⟩ := o5.stored (zs.length * 6 + 5) u5
  have hgr : W1.grownBy (six W1 g (zs.length * 6) u0 u1 u2 u3 u4 u5) (some g) := grown_trans q1 (grown_trans q2 (grown_trans q3 (grown_trans q4 (grown_trans q5 q6))))
  have hlt := (h.row.low g rfl)
  have hgT := h.notT g rfl
  have hgB : Bo ≠ g := fun e => hbox (by rw [e]; rfl)
  have hst : Stay W1 (six W1 g (zs.length * 6) u0 u1 u2 u3 u4 u5) (fun b => Ft n₀ S T Bo b ∧ (Value.slice (some ⟨g, 0, none⟩) n c).ownBlock ≠ some b) (fun b => Ft n₀ S T Bo b ∧ (Value.slice (some ⟨g, 0, none⟩) n c).ownBlock ≠ some b) :=
    ⟨hgr.size, fun _ _ h => h, fun b hb hs => hgr.block b hb fun e => hs.2 e.symm⟩
  refine ⟨(hgr.block Bo h.box.lt (fun e => hgB (by injection e))).trans h.box, ⟨?_, fun y hy => ?_⟩, h.keeps.trans (KeepsT.of_grownBy hgr (fun j hj => Nat.lt_of_lt_of_le (h.inW j hj) h.keeps.size) (fun k ek => by cases ek; exact hgT)),
    h.below.grown hgr (Nat.le_trans h.base h.below.size) (fun k ek => by cases ek; exact hlt.1), h.notT, h.notB, h.inW, h.base, h.lowB, h.lt, h.own0, fun b h1 h2 h3 => (hgr.block b (Nat.lt_of_lt_of_le h1 h.keeps.size) (fun e => by
      rcases h.own0 g rfl with h4 | h4
      · exact h3 (by rw [h4, e])
      · cases e; omega)).trans (h.rest b h1 h2 h3)⟩
  · have e1 : cz (zs ++ [z]) = cz zs ++ [z0, z1, z2, z3, z4, z5] := by rw [cz_append]; simp [cz, hz]
    have e2 : cz (zs ++ [(⟨([u0, u1, u2, u3, u4, u5], t), rfl⟩ : Z RT 6)]) = cz zs ++ [u0, u1, u2, u3, u4, u5] := by rw [cz_append]; simp [cz]
    rw [e1, set_six _ _ _ _ _ _ _ _ _ _ _ _ _ (cz_len zs)] at o6
    rw [e2, show (zs ++ [(⟨([u0, u1, u2, u3, u4, u5], t), rfl⟩ : Z RT 6)]).length = n by rw [hn]; simp]
    exact o6
  · rcases List.mem_append.1 hy with h1 | h1
    · exact (h.row.all y (List.mem_append_left _ h1)).stay hst
    · obtain rfl : y = ⟨([u0, u1, u2, u3, u4, u5], t), rfl⟩ := by simpa using h1
      exact hu.stay hst
end
end Go.Proofs.Ytcdhndhgainadaa
