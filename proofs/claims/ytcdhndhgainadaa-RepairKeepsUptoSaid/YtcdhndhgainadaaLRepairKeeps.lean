/-
  RepairKeeps: THE STATEMENT, from the walk in WRepairKeeps: for every input that the row lets in the call returns true, and the argument reads as it read.
  One condition, the row's own: the argument's reading is of bulk at most 1048576.
-/
import Derived.Test.YtcdhndhgainadaaRows
import Derived.Test.YtcdhndhgainadaaKeepEnd
import Derived.Test.YtcdhndhgainadaaOpenK
namespace Go.Proofs.Ytcdhndhgainadaa.repairKeeps
open Go Go.RowKit Go.ChangeShapes Go.WideShapes Go.ChangeAt

theorem lawWalk : LawWalkK Try.checked 9 Try.f9 Rows.uptoSmall := by
  intro H enc W base args ds ps hval hA hk
  have hA' : DataW.TrodAll enc Try.prog W 0 (fun _ => true) true Try.f9.params.toList args.toList ds ps := hA
  have hval' : ∀ (j : Nat) t v, Try.f9.params[j]? = some t → args[j]? = some v → Value.okWide Try.prog W .any base t v := hval
  rw [Try.params9] at hA' hval'
  obtain ⟨v0, vs0, d0, ds0, p0, q0, hargs, rfl, rfl, h0, r0⟩ := trodAll_cons hA'
  obtain ⟨rfl, rfl, rfl⟩ := trodAll_nil r0
  obtain rfl : args = #[v0] := by cases args; simp_all
  obtain ⟨v0, T0, rfl, k0, hb⟩ := open_bulk (hval' 0 31 _ rfl rfl) h0
  have hk2 : Rows.uptoBulkAll [d0] ≤ 1048576 := of_decide_eq_true hk
  simp only [Rows.uptoBulkAll] at hk2
  exact walk W v0 T0 k0 (by omega)

set_option maxRecDepth 100000 in
theorem lifted (os : Os) (started : os.Started) (H : Type) (enc : TypeId × Value → H) (F : Stop.Interp) :
    ReturnsInHanded {} Try.checked os 9 .any ((Rows.OpenSpec.upto Rows.repairKeepsSpec).pre6 enc Try.prog Try.f9 Rows.repairKeepsUptoRow.domain false) (((Rows.OpenSpec.upto Rows.repairKeepsSpec).at F).post enc Try.prog Try.f9 false true false false) :=
  law_lifted_k (C := Try.checked) (s := Rows.repairKeepsSpec) (k := Rows.uptoSmall) rfl own laidOut (by kernel_rfl) Try.func9 Try.underlying4 rfl rfl (fun _ => law_spec1 fun _ => rfl) (of_decide_eq_true (by kernel_rfl)) os started H enc F
    (OpenSpec.witness (enc := enc) (C := Try.checked) (s := Rows.OpenSpec.upto Rows.repairKeepsSpec) (k := Rows.uptoSmall) rfl false ⟨#[], #[.agg #[.int .i64 0, .int .i64 0, .string ByteArray.empty, .slice none 0 0, .slice none 0 0, .slice none 0 0]], []⟩ 8 (by kernel_rfl) (by kernel_rfl) (by kernel_rfl)
      (x := ([.agg [.agg [.lit (.int .i64 0), .lit (.int .i64 0)], .lit (.string []), .nil, .nil, .nil]], [], [])) (by kernel_rfl) (by kernel_rfl) (by kernel_rfl)) lawWalk

theorem over : Rows.repairKeepsUptoRow.holds Try.pinned (Rows.OpenSpec.upto Rows.repairKeepsSpec) :=
  OpenClaim.holds_of_cond 9 Try.f9 rfl rfl rfl rfl rfl rfl rfl ⟨rfl, rfl, rfl, rfl, rfl⟩ rfl rfl rfl rfl rfl (by kernel_rfl) Try.func9 (by kernel_rfl)
    (of_decide_eq_true (by kernel_rfl)) (by unfold Func.isWrapper; first | (rw [if_pos (by decide +kernel)]; kernel_rfl) | (rw [if_neg (by decide +kernel)]; exact ⟨rfl, rfl⟩))
    (fun os started H enc _ F => lifted os started H enc F)

theorem proved : Rows.RepairKeepsUptoSaid := over
#print axioms proved
end Go.Proofs.Ytcdhndhgainadaa.repairKeeps
