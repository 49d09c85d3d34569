/-
  ColumnTakes: THE STATEMENT, from the walk in WColumnTakes: for every input that the row lets in the call returns true, and each argument reads as it read.
  No condition.
-/
import Derived.Test.YtokpcpopibpebaaRows
import Derived.Test.YtokpcpopibpebaaWColumnTakes
import Derived.Test.YtokpcpopibpebaaOpenCol
namespace Go.Proofs.Ytokpcpopibpebaa.columnTakes
open Go Go.RowKit Go.ChangeShapes Go.WideShapes Go.ChangeAt

theorem lawWalk : LawWalk Try.checked 12 Try.f12 := by
  intro H enc W base args ds ps hval hA hsz
  have hA' : DataW.TrodAll enc Try.prog W 0 (fun _ => true) true Try.f12.params.toList args.toList ds ps := hA
  have hval' : ∀ (j : Nat) t v, Try.f12.params[j]? = some t → args[j]? = some v → Value.okWide Try.prog W .any base t v := hval
  have hsz' : (DataW.weightsEach Try.prog Try.f12.params.toList ds).all (· ≤ reachBytes) = true := hsz
  rw [Try.params12] at hA' hval' hsz'
  obtain ⟨v0, vs0, d0, ds0, p0, q0, hargs, rfl, rfl, h0, r0⟩ := trodAll_cons hA'
  obtain ⟨v1, vs1, d1, ds1, p1, q1, rfl, rfl, rfl, h1, r1⟩ := trodAll_cons r0
  obtain ⟨rfl, rfl, rfl⟩ := trodAll_nil r1
  obtain rfl : args = #[v0, v1] := by cases args; simp_all
  obtain ⟨A0, n0, c0, x0, rfl, k0⟩ := open_by8 (hval' 0 24 _ rfl rfl) h0 hsz' 0 rfl rfl
  obtain ⟨a1, rfl, l1, u1⟩ := open_i64 Try.underlying3 (hval' 1 3 _ rfl rfl) h1
  exact walk W A0 n0 c0 x0 k0 a1 l1 u1

set_option maxRecDepth 100000 in
theorem lifted (os : Os) (started : os.Started) (H : Type) (enc : TypeId × Value → H) :
    ReturnsInHanded {} Try.checked os 12 .any (Rows.columnTakesSpec.pre6 enc Try.prog Try.f12 Rows.columnTakesRow.domain false) (Rows.columnTakesSpec.post enc Try.prog Try.f12 false true false false) :=
  law_lifted (C := Try.checked) (s := Rows.columnTakesSpec) own laidOut (by kernel_rfl) Try.func12 Try.underlying4 rfl rfl rfl (fun _ => law_spec2 fun _ _ => rfl) (of_decide_eq_true (by kernel_rfl)) os started H enc
    (ChangeSpec.witness6 (enc := enc) (C := Try.checked) false ⟨#[], #[.slice none 0 0, .int .i64 0], []⟩ 8 (by kernel_rfl) (by kernel_rfl) (by kernel_rfl) (by kernel_rfl)) lawWalk

theorem over : Rows.columnTakesRow.holds Try.pinned (OpenSpec.ofChange Rows.columnTakesSpec) :=
  OpenClaim.holds_of_wide 12 Try.f12 rfl rfl rfl rfl rfl rfl rfl ⟨rfl, rfl, rfl, rfl, rfl⟩ rfl rfl rfl rfl rfl (by kernel_rfl) Try.func12 (by kernel_rfl)
    (of_decide_eq_true (by kernel_rfl)) (by unfold Func.isWrapper; first | (rw [if_pos (by decide +kernel)]; kernel_rfl) | (rw [if_neg (by decide +kernel)]; exact ⟨rfl, rfl⟩))
    (fun os started H enc _ => lifted os started H enc)

theorem proved : Rows.ColumnTakesSaid := over
#print axioms proved
end Go.Proofs.Ytokpcpopibpebaa.columnTakes
