/-
  FrameStream: THE STATEMENT, from the walk in WFrameStream: for every input that the row lets in the call returns true, and each argument reads as it read.
  No condition.
-/
import Derived.Test.YtfbiobglckjilaaRows
import Derived.Test.YtfbiobglckjilaaWFrameStream
import Derived.Test.YtfbiobglckjilaaOpenS
namespace Go.Proofs.Ytfbiobglckjilaa.frameStream
open Go Go.RowKit Go.ChangeShapes Go.WideShapes Go.ChangeAt

theorem lawWalk : LawWalk Try.checked 9 Try.f9 := by
  intro H enc W base args ds ps hval hA hsz
  have hA' : DataW.TrodAll enc Try.prog W 0 (fun _ => true) true Try.f9.params.toList args.toList ds ps := hA
  have hval' : ∀ (j : Nat) t v, Try.f9.params[j]? = some t → args[j]? = some v → Value.okWide Try.prog W .any base t v := hval
  have hsz' : (DataW.weightsEach Try.prog Try.f9.params.toList ds).all (· ≤ reachBytes) = true := hsz
  rw [Try.params9] at hA' hval' hsz'
  obtain ⟨v0, vs0, d0, ds0, p0, q0, hargs, rfl, rfl, h0, r0⟩ := trodAll_cons hA'
  obtain ⟨v1, vs1, d1, ds1, p1, q1, rfl, rfl, rfl, h1, r1⟩ := trodAll_cons r0
  obtain ⟨rfl, rfl, rfl⟩ := trodAll_nil r1
  obtain rfl : args = #[v0, v1] := by cases args; simp_all
  obtain ⟨A0, n0, c0, l0, rfl, k0⟩ := open_frameds (hval' 0 40 _ rfl rfl) h0 hsz' 0 rfl rfl
  obtain ⟨a1, rfl, l1, u1⟩ := open_i64 Try.underlying3 (hval' 1 3 _ rfl rfl) h1
  exact walk W A0 n0 c0 l0 k0 a1 l1 u1

set_option maxRecDepth 100000 in
theorem lifted (os : Os) (started : os.Started) (H : Type) (enc : TypeId × Value → H) :
    ReturnsInHanded {} Try.checked os 9 .any (Rows.frameStreamSpec.pre6 enc Try.prog Try.f9 Rows.frameStreamRow.domain false) (Rows.frameStreamSpec.post enc Try.prog Try.f9 false true false false) :=
  law_lifted (C := Try.checked) (s := Rows.frameStreamSpec) own laidOut (by kernel_rfl) Try.func9 Try.underlying4 rfl rfl rfl (fun _ => law_spec2 fun _ _ => rfl) (of_decide_eq_true (by kernel_rfl)) os started H enc
    (ChangeSpec.witness6 (enc := enc) (C := Try.checked) false ⟨#[], #[.slice none 0 0, .int .i64 0], []⟩ 8 (by kernel_rfl) (by kernel_rfl) (by kernel_rfl) (by kernel_rfl)) lawWalk

theorem over : Rows.frameStreamRow.holds Try.pinned (OpenSpec.ofChange Rows.frameStreamSpec) :=
  OpenClaim.holds_of_wide 9 Try.f9 rfl rfl rfl rfl rfl rfl rfl ⟨rfl, rfl, rfl, rfl, rfl⟩ rfl rfl rfl rfl rfl (by kernel_rfl) Try.func9 (by kernel_rfl)
    (of_decide_eq_true (by kernel_rfl)) (by unfold Func.isWrapper; first | (rw [if_pos (by decide +kernel)]; kernel_rfl) | (rw [if_neg (by decide +kernel)]; exact ⟨rfl, rfl⟩))
    (fun os started H enc _ => lifted os started H enc)

theorem proved : Rows.FrameStreamSaid := over
#print axioms proved
end Go.Proofs.Ytfbiobglckjilaa.frameStream
