/-
  ColumnShort: THE STATEMENT, from the walk in WColumnShort: for every input that the row lets in the call returns true, and each argument reads as it read.
  No condition.
-/
import Derived.Test.YtokpcpopibpebaaRows
import Derived.Test.YtokpcpopibpebaaWColumnShort
import Derived.Test.YtokpcpopibpebaaOpenCol
namespace Go.Proofs.Ytokpcpopibpebaa.columnShort
open Go Go.RowKit Go.ChangeShapes Go.WideShapes Go.ChangeAt

theorem lawWalk : LawWalk Try.checked 11 Try.f11 := by
  intro H enc W base args ds ps hval hA hsz
  have hA' : DataW.TrodAll enc Try.prog W 0 (fun _ => true) true Try.f11.params.toList args.toList ds ps := hA
  have hval' : ∀ (j : Nat) t v, Try.f11.params[j]? = some t → args[j]? = some v → Value.okWide Try.prog W .any base t v := hval
  have hsz' : (DataW.weightsEach Try.prog Try.f11.params.toList ds).all (· ≤ reachBytes) = true := hsz
  rw [Try.params11] at hA' hval' hsz'
  obtain ⟨v0, vs0, d0, ds0, p0, q0, hargs, rfl, rfl, h0, r0⟩ := trodAll_cons hA'
  obtain ⟨v1, vs1, d1, ds1, p1, q1, rfl, rfl, rfl, h1, r1⟩ := trodAll_cons r0
  obtain ⟨v2, vs2, d2, ds2, p2, q2, rfl, rfl, rfl, h2, r2⟩ := trodAll_cons r1
  obtain ⟨rfl, rfl, rfl⟩ := trodAll_nil r2
  obtain rfl : args = #[v0, v1, v2] := by cases args; simp_all
  obtain ⟨a0, rfl, l0, u0⟩ := open_i64 Try.underlying3 (hval' 0 3 _ rfl rfl) h0
  obtain ⟨a1, rfl, l1, u1⟩ := open_i64 Try.underlying3 (hval' 1 3 _ rfl rfl) h1
  obtain ⟨a2, rfl, l2, u2⟩ := open_i64 Try.underlying3 (hval' 2 3 _ rfl rfl) h2
  exact walk W a0 l0 u0 a1 l1 u1 a2 l2 u2

set_option maxRecDepth 100000 in
theorem lifted (os : Os) (started : os.Started) (H : Type) (enc : TypeId × Value → H) :
    ReturnsInHanded {} Try.checked os 11 .any (Rows.columnShortSpec.pre6 enc Try.prog Try.f11 Rows.columnShortRow.domain false) (Rows.columnShortSpec.post enc Try.prog Try.f11 false true false false) :=
  law_lifted (C := Try.checked) (s := Rows.columnShortSpec) own laidOut (by kernel_rfl) Try.func11 Try.underlying4 rfl rfl rfl (fun _ => law_spec3 fun _ _ _ => rfl) (of_decide_eq_true (by kernel_rfl)) os started H enc
    (ChangeSpec.witness6 (enc := enc) (C := Try.checked) false ⟨#[], #[.int .i64 0, .int .i64 0, .int .i64 0], []⟩ 8 (by kernel_rfl) (by kernel_rfl) (by kernel_rfl) (by kernel_rfl)) lawWalk

theorem over : Rows.columnShortRow.holds Try.pinned (OpenSpec.ofChange Rows.columnShortSpec) :=
  OpenClaim.holds_of_wide 11 Try.f11 rfl rfl rfl rfl rfl rfl rfl ⟨rfl, rfl, rfl, rfl, rfl⟩ rfl rfl rfl rfl rfl (by kernel_rfl) Try.func11 (by kernel_rfl)
    (of_decide_eq_true (by kernel_rfl)) (by unfold Func.isWrapper; first | (rw [if_pos (by decide +kernel)]; kernel_rfl) | (rw [if_neg (by decide +kernel)]; exact ⟨rfl, rfl⟩))
    (fun os started H enc _ => lifted os started H enc)

theorem proved : Rows.ColumnShortSaid := over
#print axioms proved
end Go.Proofs.Ytokpcpopibpebaa.columnShort
