/-
  ColumnTwo: THE STATEMENT, from the walk in WColumnTwo: for every input that the row lets in the call returns true, and each argument reads as it read.
  No condition.
-/
import Derived.Test.YtokpcpopibpebaaRows
import Derived.Test.YtokpcpopibpebaaWColumnTwo
import Derived.Test.YtokpcpopibpebaaOpenCol
namespace Go.Proofs.Ytokpcpopibpebaa.columnTwo
open Go Go.RowKit Go.ChangeShapes Go.WideShapes Go.ChangeAt

theorem lawWalk : LawWalk Try.checked 15 Try.f15 := by
  intro H enc W base args ds ps hval hA hsz
  have hA' : DataW.TrodAll enc Try.prog W 0 (fun _ => true) true Try.f15.params.toList args.toList ds ps := hA
  have hval' : ∀ (j : Nat) t v, Try.f15.params[j]? = some t → args[j]? = some v → Value.okWide Try.prog W .any base t v := hval
  have hsz' : (DataW.weightsEach Try.prog Try.f15.params.toList ds).all (· ≤ reachBytes) = true := hsz
  rw [Try.params15] at hA' hval' hsz'
  obtain ⟨v0, vs0, d0, ds0, p0, q0, hargs, rfl, rfl, h0, r0⟩ := trodAll_cons hA'
  obtain ⟨v1, vs1, d1, ds1, p1, q1, rfl, rfl, rfl, h1, r1⟩ := trodAll_cons r0
  obtain ⟨v2, vs2, d2, ds2, p2, q2, rfl, rfl, rfl, h2, r2⟩ := trodAll_cons r1
  obtain ⟨rfl, rfl, rfl⟩ := trodAll_nil r2
  obtain rfl : args = #[v0, v1, v2] := by cases args; simp_all
  obtain ⟨A0, n0, c0, x0, rfl, k0⟩ := open_ints (hval' 0 38 _ rfl rfl) h0 hsz' 0 rfl rfl
  obtain ⟨A1, n1, c1, x1, rfl, k1⟩ := open_ints (hval' 1 38 _ rfl rfl) h1 hsz' 1 rfl rfl
  obtain ⟨A2, n2, c2, x2, rfl, k2⟩ := open_bools (hval' 2 39 _ rfl rfl) h2 hsz' 2 rfl rfl
  exact walk W A0 n0 c0 x0 k0 A1 n1 c1 x1 k1 A2 n2 c2 x2 k2

set_option maxRecDepth 100000 in
theorem lifted (os : Os) (started : os.Started) (H : Type) (enc : TypeId × Value → H) :
    ReturnsInHanded {} Try.checked os 15 .any (Rows.columnTwoSpec.pre6 enc Try.prog Try.f15 Rows.columnTwoRow.domain false) (Rows.columnTwoSpec.post enc Try.prog Try.f15 false true false false) :=
  law_lifted (C := Try.checked) (s := Rows.columnTwoSpec) own laidOut (by kernel_rfl) Try.func15 Try.underlying4 rfl rfl rfl (fun _ => law_spec3 fun _ _ _ => rfl) (of_decide_eq_true (by kernel_rfl)) os started H enc
    (ChangeSpec.witness6 (enc := enc) (C := Try.checked) false ⟨#[], #[.slice none 0 0, .slice none 0 0, .slice none 0 0], []⟩ 8 (by kernel_rfl) (by kernel_rfl) (by kernel_rfl) (by kernel_rfl)) lawWalk

theorem over : Rows.columnTwoRow.holds Try.pinned (OpenSpec.ofChange Rows.columnTwoSpec) :=
  OpenClaim.holds_of_wide 15 Try.f15 rfl rfl rfl rfl rfl rfl rfl ⟨rfl, rfl, rfl, rfl, rfl⟩ rfl rfl rfl rfl rfl (by kernel_rfl) Try.func15 (by kernel_rfl)
    (of_decide_eq_true (by kernel_rfl)) (by unfold Func.isWrapper; first | (rw [if_pos (by decide +kernel)]; kernel_rfl) | (rw [if_neg (by decide +kernel)]; exact ⟨rfl, rfl⟩))
    (fun os started H enc _ => lifted os started H enc)

theorem proved : Rows.ColumnTwoSaid := over
#print axioms proved
end Go.Proofs.Ytokpcpopibpebaa.columnTwo
