/-
  The words of the walk of BlocksSplit.
-/
import Derived.Test.YtdajnkcjdmnnkaaOpenC
import Derived.Test.YtdajnkcjdmnnkaaSmall
import Derived.Test.YtdajnkcjdmnnkaaSplitLaw
import Derived.Deep.RegionHeld3
namespace Go.Proofs.Ytdajnkcjdmnnkaa
open Go Go.RowKit
set_option linter.unusedVariables false

theorem info29 : (Try.prog.info? 29).map (fun i => (i.zero, i.size, i.bytes)) = some (some (.agg #[.int .i64 0, .int .i64 0, .int .i64 0, .bool false]), 4, 32) := by kernel_rfl
theorem els_one (l : List El) : ∀ u ∈ els l, u.oneCell' = true := by
  intro u hu
  simp only [els, List.mem_flatMap] at hu
  obtain ⟨s, _, hs⟩ := hu
  simp [El.cells] at hs
  rcases hs with rfl | rfl | rfl | rfl <;> rfl
theorem els_append (a b : List El) : els (a ++ b) = els a ++ els b := by simp [els]

theorem own_cap {w : World} {base n c size : Nat} {e : TypeId} {A : Option Addr} {xs : List Value} (h : w.ownsRow base e size (.slice A n c) n xs) : n ≤ c ∧ c ≤ maxLen := by
  obtain ⟨A', c', hv, h1, h2⟩ := own_slice h
  injection hv with _ _ hc
  subst hc
  exact ⟨h1, h2⟩
theorem own_addr {w : World} {base n c size : Nat} {e : TypeId} {A : Option Addr} {xs : List Value} (h : w.ownsRow base e size (.slice A n c) n xs) (hn : 0 < n) : ∃ g, A = some ⟨g, 0, none⟩ ∧ base ≤ g ∧ g < w.heap.size := by
  obtain ⟨g, c', hv, h1, h2⟩ := h.form hn
  injection hv with hA
  exact ⟨g, hA, h1, h2⟩
theorem Box2.not_row {W : World} {B : Nat} {t e : TypeId} {x y : Value} (h : Box2 W B t x y) (hte : t ≠ e) {base size k : Nat} {v : Value} {xs : List Value} (hr : W.ownsRow base e size v k xs) : some B ≠ v.ownBlock := by
  rcases hr.2 with ⟨rfl, _⟩ | ⟨g, cap, cur, rfl, _, hgb, _⟩
  · simp [Value.ownBlock]
  · intro e'
    obtain rfl : B = g := by simpa [Value.ownBlock] using e'
    have := (show W.heap[B]? = _ from h).symm.trans hgb
    simp at this
    exact hte this.2

/-- what holds while the loops run -/
structure Ctx (W : World) (A : Option Addr) (n c : Nat) (l : List El) (a : Nat) (sn sr : Int) (N gp gq gm cm : Nat) (wr : World) : Prop where
  rdP : Rd wr wr.heap.size 4 (some ⟨gp, 0, none⟩) N (sps (pieces l))
  rdQ : Rd wr wr.heap.size 4 (some ⟨gq, 0, none⟩) (N + 1) (sps (pieces (puts l a ⟨sn, sr, 0, false⟩)))
  own : wr.ownsRow W.heap.size 29 4 (.slice (some ⟨gm, 0, none⟩) (n + 1) cm) (n + 1) (els (puts l a ⟨sn, sr, 0, false⟩))
  box : Box2 wr W.heap.size 27 (.int .i64 sn) (.int .i64 sr)
  below : Below W.heap.size W wr
theorem Ctx.next {W : World} {A : Option Addr} {n c : Nat} {l : List El} {a : Nat} {sn sr : Int} {N gp gq gm cm : Nat} {wr w' : World} (h : Ctx W A n c l a sn sr N gp gq gm cm wr) (hb : Below wr.heap.size wr w') : Ctx W A n c l a sn sr N gp gq gm cm w' :=
  ⟨(h.rdP.below hb).more hb.size, (h.rdQ.below hb).more hb.size, own_heap h.own fun g hg => hb.block g (h.own.lt g hg).2, (hb.block _ h.box.lt).trans h.box, h.below.trans (hb.mono h.below.size)⟩

theorem Ctx.draws {W : World} {A : Option Addr} {n c : Nat} {l : List El} {a : Nat} {sn sr : Int} {N gp gq gm cm : Nat} {wr : World} (h : Ctx W A n c l a sn sr N gp gq gm cm wr) (nq : Nat) : Ctx W A n c l a sn sr N gp gq gm cm (wr.drewN nq) :=
  h.next (below_draws (Below.refl _ _) nq)
theorem els_set {l : List El} {a : Nat} {sn sr : Int} (h : a ≤ l.length) : (els (puts l a ⟨sn, sr, 0, false⟩)).set (a * 4 + 3) (.bool true) = els (puts l a ⟨sn, sr, 0, true⟩) := by
  unfold puts
  rw [els_append, els_append]
  have e1 : els (⟨sn, sr, 0, false⟩ :: l.drop a) = [.int .i64 sn, .int .i64 sr, .int .i64 0, .bool false] ++ els (l.drop a) := rfl
  have e2 : els (⟨sn, sr, 0, true⟩ :: l.drop a) = [.int .i64 sn, .int .i64 sr, .int .i64 0, .bool true] ++ els (l.drop a) := rfl
  have e3 : (els (l.take a)).length = a * 4 := by rw [els_len]; simp; omega
  rw [e1, e2, List.set_append_right _ _ (by omega), e3]
  have e4 : a * 4 + 3 - a * 4 = 3 := by omega
  rw [e4]; rfl
/-- what holds in the last loop -/
structure Ctx3 (W : World) (n : Nat) (l : List El) (a : Nat) (sn sr : Int) (N gp gr gm : Nat) (wr : World) : Prop where
  rdP : Rd wr wr.heap.size 4 (some ⟨gp, 0, none⟩) N (sps (pieces l))
  rdR : Rd wr wr.heap.size 4 (some ⟨gr, 0, none⟩) N (sps (pieces (puts l a ⟨sn, sr, 0, true⟩)))
  rdM : Rd wr wr.heap.size 4 (some ⟨gm, 0, none⟩) (n + 1) (els (puts l a ⟨sn, sr, 0, true⟩))
  below : Below W.heap.size W wr
theorem Ctx3.next {W : World} {n : Nat} {l : List El} {a : Nat} {sn sr : Int} {N gp gr gm : Nat} {wr w' : World} (h : Ctx3 W n l a sn sr N gp gr gm wr) (hb : Below wr.heap.size wr w') : Ctx3 W n l a sn sr N gp gr gm w' :=
  ⟨(h.rdP.below hb).more hb.size, (h.rdR.below hb).more hb.size, (h.rdM.below hb).more hb.size, h.below.trans (hb.mono h.below.size)⟩
theorem text_len (l : List El) (f t : Int) : (text l f t).length ≤ l.length := by
  unfold text
  split
  · simp
  · refine Nat.le_trans (txtOf_len _) ?_
    rw [List.length_take, List.length_drop]
    omega

/-- the place that is meant -/
def placeOf (at_ : Int) (n : Nat) : Nat := (if at_ < 0 then (-(at_ + 1)).toNat else at_.toNat) % (n + 1)

end Go.Proofs.Ytdajnkcjdmnnkaa
