/-
  The walk of stemmalaw03.alive: it returns true.
-/
import Derived.Test.YtokpcpopibpebaaSame
namespace Go.Proofs.Ytokpcpopibpebaa
open Go Go.RowKit

def Put300 (w : World) (e : Ending) (w' : World) : Prop :=
  ∃ g c, e = .returned (.slice (some ⟨g, 0, none⟩) 2 c) ∧ w'.cell? ⟨g, 0, none⟩ = some (.int .u8 172) ∧ w'.cell? ⟨g, 1, none⟩ = some (.int .u8 2) ∧ Below w.heap.size w w'

theorem put300 (w : World) : Calls Try.prog 17 #[.int .u64 300] w (Put300 w) := by
  have hp : V.put 300 = [172, 2] := by rw [V.put_ge (by omega), V.put_lt (by omega)]
  have hput := put_any 300 w (by omega)
  rw [hp] at hput
  refine hput.mono ?_
  rintro e w1 ⟨A, c, rfl, hown, hB⟩
  obtain ⟨g, cap, hv, _, _⟩ := hown.form (by decide)
  injection hv with hA
  subst hA
  exact ⟨g, c, rfl, hown.cellAt 0 (by decide), hown.cellAt 1 (by decide), hB⟩

theorem alive_any (w : World) : Calls Try.prog 19 #[] w fun e w' => e = .returned (.bool true) ∧ Below w.heap.size w w' := by
  go_enter Try.func19, Try.ntmps19
  go_wp2_with (go_at_call 17; refine (put300 _).mono ?_; rintro e w1 ⟨g, c, rfl, h0, h1, hB⟩)
  go_ret
  exact ⟨rfl, hB⟩
end Go.Proofs.Ytokpcpopibpebaa
