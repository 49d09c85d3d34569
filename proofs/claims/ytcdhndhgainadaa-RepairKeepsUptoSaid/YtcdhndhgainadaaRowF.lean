/-
  Append of nodes onto a row of the call's own, at one operation.
-/
import Derived.Test.YtcdhndhgainadaaMadeF
namespace Go.Proofs.Ytcdhndhgainadaa
open Go Go.RowKit
set_option linter.unusedVariables false
set_option linter.unusedSimpArgs false

section
variable {w w' : World} {S S' : Nat → Prop} {n₀ : Nat} {v : Value} {zs zs' : List (Z RT 6)}
/-- a literal of one node -/
theorem Row.one (u : Array Value) (t : RT) (hu : NdF w S' u.toList t) (hs : ∀ b, b < w.heap.size → S' b → Sn n₀ S b) (g : Nat) (hg : w.heap.size = g) (hn : n₀ ≤ g) :
    Row (w.alloc (.cells u 31)) n₀ S (.slice (some ⟨g, 0, none⟩) 1 1) [⟨(u.toList, t), hu.len⟩] := by
  subst hg
  have hl : u.toList.length = 6 := hu.len
  refine ⟨?_, fun z hz => ?_⟩
  · have := World.ownsRow_lit (e := 31) (size := 6) w u 1 hn (by simp [maxLen]) (by simpa using hl)
    have e : cz [(⟨(u.toList, t), hl⟩ : Z RT 6)] = u.toList := by simp [cz]
    rw [e]
    exact this
  · obtain rfl : z = ⟨(u.toList, t), hl⟩ := by simpa using hz
    refine hu.stay (.below ((Below.refl _ w).alloc (Nat.le_refl _) _) fun b hb h => ⟨hs b hb h, fun e => ?_⟩)
    simp [Value.ownBlock] at e
    omega
theorem Row.low (h : Row w n₀ S v zs) : ∀ g, v.ownBlock = some g → n₀ ≤ g ∧ g < w.heap.size := fun g hg => h.own.lt g hg

section
variable {a : Act} {o : Oper} {K : Act → World → Prop} {Q : Exit → Act → World → Prop} {A : Option Addr} {m c : Nat}
theorem wp_rows (s x : Operand) (ho : o.op = .call { callee := .builtin .append, args := #[s, x], argTypes := #[29, 29] })
    (hs : a.eval s = v) (hrow : Row w n₀ S v zs) (hx : a.eval x = .slice A m c) (hnews : RdZ 6 (NdF w S') (only w S') w.heap.size A m c zs') (hsub : ∀ b, b < w.heap.size → S' b → Sx n₀ S v b)
    (hlen : zs.length + zs'.length ≤ 1000000) (hn₀ : n₀ ≤ w.heap.size)
    (h : ∀ A' c' w', Row w' n₀ S (.slice A' (zs.length + zs'.length) c') (zs ++ zs') → w.grownBy w' v.ownBlock → (∀ g, (Value.slice A' (zs.length + zs'.length) c').ownBlock = some g → v.ownBlock = some g ∨ w.heap.size = g) →
      K (a.put o.dst (.slice A' (zs.length + zs'.length) c')) w') : o.wp Try.prog a w K Q := by
  have hm : zs'.length = m := hnews.len
  subst hm
  refine wp_app s x 29 ho n₀ 31 zNode 6 104 Try.underlying29 info31 rfl (by decide) v zs.length (cz zs) hs hrow.own w.heap.size A zs'.length c (cz zs') hx hnews.row.bare (nd_one hnews.all) (by unfold maxLen; omega) (by omega) hn₀ ?_
  intro A' c' w' h1 h2 h3
  exact h A' c' w' (hrow.app hn₀ (fun z hz => (hnews.all z hz).stay (.weaken w hsub)) h1 h2 h3) h2 h3
theorem wpList_rows {ops : Array Oper} {rest : List Oper} (hgd : o.guard = none) (s x : Operand) (ho : o.op = .call { callee := .builtin .append, args := #[s, x], argTypes := #[29, 29] })
    (hs : a.eval s = v) (hrow : Row w n₀ S v zs) (hx : a.eval x = .slice A m c) (hnews : RdZ 6 (NdF w S') (only w S') w.heap.size A m c zs') (hsub : ∀ b, b < w.heap.size → S' b → Sx n₀ S v b)
    (hlen : zs.length + zs'.length ≤ 1000000) (hn₀ : n₀ ≤ w.heap.size)
    (h : ∀ A' c' w', Row w' n₀ S (.slice A' (zs.length + zs'.length) c') (zs ++ zs') → w.grownBy w' v.ownBlock → (∀ g, (Value.slice A' (zs.length + zs'.length) c').ownBlock = some g → v.ownBlock = some g ∨ w.heap.size = g) →
      wpList Try.prog ops Q rest (a.put o.dst (.slice A' (zs.length + zs'.length) c')) w') : wpList Try.prog ops Q (o :: rest) a w :=
  wpList_plain hgd fun _ hK => wp_rows s x ho hs hrow hx hnews hsub hlen hn₀ fun A' c' w' h1 h2 h3 => hK _ _ (h A' c' w' h1 h2 h3)
theorem wpListIn_rows {F : Fence} {d : Nat} {ops : Array Oper} {rest : List Oper} (hgd : o.guard = none) (s x : Operand) (ho : o.op = .call { callee := .builtin .append, args := #[s, x], argTypes := #[29, 29] })
    (hs : a.eval s = v) (hrow : Row w n₀ S v zs) (hx : a.eval x = .slice A m c) (hnews : RdZ 6 (NdF w S') (only w S') w.heap.size A m c zs') (hsub : ∀ b, b < w.heap.size → S' b → Sx n₀ S v b)
    (hlen : zs.length + zs'.length ≤ 1000000) (hn₀ : n₀ ≤ w.heap.size)
    (h : ∀ A' c' w', Row w' n₀ S (.slice A' (zs.length + zs'.length) c') (zs ++ zs') → w.grownBy w' v.ownBlock → (∀ g, (Value.slice A' (zs.length + zs'.length) c').ownBlock = some g → v.ownBlock = some g ∨ w.heap.size = g) →
      wpListIn F d Try.prog ops Q rest (a.put o.dst (.slice A' (zs.length + zs'.length) c')) w') : wpListIn F d Try.prog ops Q (o :: rest) a w := by
  have hm : zs'.length = m := hnews.len
  subst hm
  refine wpListIn_app w hgd s x 29 ho n₀ 31 zNode 6 104 Try.underlying29 info31 rfl (by decide) v zs.length (cz zs) hs hrow.own w.heap.size A zs'.length c (cz zs') hx hnews.row.bare (nd_one hnews.all) (by unfold maxLen; omega) (by omega) hn₀ ?_
  intro A' c' w' h1 h2 h3
  exact h A' c' w' (hrow.app hn₀ (fun z hz => (hnews.all z hz).stay (.weaken w hsub)) h1 h2 h3) h2 h3
end
theorem Row.grown_below {w w' : World} {n₀ : Nat} {S : Nat → Prop} {v : Value} {zs : List (Z RT 6)} (h : Row w n₀ S v zs) (hg : w.grownBy w' v.ownBlock) (hn₀ : n₀ ≤ w.heap.size) : Below n₀ w w' :=
  (Below.refl n₀ w).grown hg hn₀ fun k hk => (h.low k hk).1
end
end Go.Proofs.Ytcdhndhgainadaa
