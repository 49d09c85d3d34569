/-
  RepairApart: THE STATEMENT, from the walk in WRepairApart: for every input that the row lets in the call returns true, and each argument reads as it read.
  No condition.
-/
import Derived.Test.YtcdhndhgainadaaRows
import Derived.Test.YtcdhndhgainadaaWRepairApart
import Derived.Test.YtcdhndhgainadaaOpenR
namespace Go.Proofs.Ytcdhndhgainadaa.repairApart
open Go Go.RowKit Go.ChangeShapes Go.WideShapes Go.ChangeAt

theorem lawWalk : LawWalk Try.checked 11 Try.f11 := by
  intro H enc W base args ds ps hval hA hsz
  have hA' : DataW.TrodAll enc Try.prog W 0 (fun _ => true) true Try.f11.params.toList args.toList ds ps := hA
  have hval' : ∀ (j : Nat) t v, Try.f11.params[j]? = some t → args[j]? = some v → Value.okWide Try.prog W .any base t v := hval
  have hsz' : (DataW.weightsEach Try.prog Try.f11.params.toList ds).all (· ≤ reachBytes) = true := hsz
  rw [Try.params11] at hA' hval' hsz'
  obtain ⟨v0, vs0, d0, ds0, p0, q0, hargs, rfl, rfl, h0, r0⟩ := trodAll_cons hA'
  obtain ⟨rfl, rfl, rfl⟩ := trodAll_nil r0
  obtain rfl : args = #[v0] := by cases args; simp_all
  obtain ⟨v0, T0, rfl, k0⟩ := open_rnode (hval' 0 31 _ rfl rfl) h0 hsz' 0 rfl rfl
  exact walk W v0 T0 k0

set_option maxRecDepth 100000 in
theorem lifted (os : Os) (started : os.Started) (H : Type) (enc : TypeId × Value → H) :
    ReturnsInHanded {} Try.checked os 11 .any (Rows.repairApartSpec.pre6 enc Try.prog Try.f11 Rows.repairApartRow.domain false) (Rows.repairApartSpec.post enc Try.prog Try.f11 false true false false) :=
  law_lifted (C := Try.checked) (s := Rows.repairApartSpec) own laidOut (by kernel_rfl) Try.func11 Try.underlying4 rfl rfl rfl (fun _ => law_spec1 fun _ => rfl) (of_decide_eq_true (by kernel_rfl)) os started H enc
    (ChangeSpec.witness6 (enc := enc) (C := Try.checked) false ⟨#[], #[.agg #[.int .i64 0, .int .i64 0, .string ByteArray.empty, .slice none 0 0, .slice none 0 0, .slice none 0 0]], []⟩ 8 (by kernel_rfl) (by kernel_rfl) (by kernel_rfl) (by kernel_rfl)) lawWalk

theorem over : Rows.repairApartRow.holds Try.pinned (OpenSpec.ofChange Rows.repairApartSpec) :=
  OpenClaim.holds_of_wide 11 Try.f11 rfl rfl rfl rfl rfl rfl rfl ⟨rfl, rfl, rfl, rfl, rfl⟩ rfl rfl rfl rfl rfl (by kernel_rfl) Try.func11 (by kernel_rfl)
    (of_decide_eq_true (by kernel_rfl)) (by unfold Func.isWrapper; first | (rw [if_pos (by decide +kernel)]; kernel_rfl) | (rw [if_neg (by decide +kernel)]; exact ⟨rfl, rfl⟩))
    (fun os started H enc _ => lifted os started H enc)

theorem proved : Rows.RepairApartSaid := over
#print axioms proved
end Go.Proofs.Ytcdhndhgainadaa.repairApart
