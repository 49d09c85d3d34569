/-
  BlocksPieces: THE STATEMENT, from the walk in WBlocksPieces: for every input that the row lets in the call returns true, and each argument reads as it read.
  No condition.
-/
import Derived.Test.YtdajnkcjdmnnkaaRows
import Derived.Test.YtdajnkcjdmnnkaaWBlocksPieces
import Derived.Test.YtdajnkcjdmnnkaaOpenC
namespace Go.Proofs.Ytdajnkcjdmnnkaa.blocksPieces
open Go Go.RowKit Go.ChangeShapes Go.WideShapes Go.ChangeAt

theorem lawWalk : LawWalk Try.checked 5 Try.f5 := by
  intro H enc W base args ds ps hval hA hsz
  have hA' : DataW.TrodAll enc Try.prog W 0 (fun _ => true) true Try.f5.params.toList args.toList ds ps := hA
  have hval' : ∀ (j : Nat) t v, Try.f5.params[j]? = some t → args[j]? = some v → Value.okWide Try.prog W .any base t v := hval
  have hsz' : (DataW.weightsEach Try.prog Try.f5.params.toList ds).all (· ≤ reachBytes) = true := hsz
  rw [Try.params5] at hA' hval' hsz'
  obtain ⟨v0, vs0, d0, ds0, p0, q0, hargs, rfl, rfl, h0, r0⟩ := trodAll_cons hA'
  obtain ⟨v1, vs1, d1, ds1, p1, q1, rfl, rfl, rfl, h1, r1⟩ := trodAll_cons r0
  obtain ⟨v2, vs2, d2, ds2, p2, q2, rfl, rfl, rfl, h2, r2⟩ := trodAll_cons r1
  obtain ⟨rfl, rfl, rfl⟩ := trodAll_nil r2
  obtain rfl : args = #[v0, v1, v2] := by cases args; simp_all
  obtain ⟨A0, n0, c0, l0, rfl, k0⟩ := open_els (hval' 0 22 _ rfl rfl) h0 hsz' 0 rfl rfl
  obtain ⟨sn1, sr1, sf1, st1, rfl, kn1, kr1, kf1, kt1⟩ := open_span (hval' 1 31 _ rfl rfl) h1 hsz' 1 rfl rfl
  obtain ⟨a2, rfl, l2, u2⟩ := open_i64 Try.underlying3 (hval' 2 3 _ rfl rfl) h2
  exact walk W A0 n0 c0 l0 k0 sn1 sr1 sf1 st1 kn1 kr1 kf1 kt1 a2 l2 u2

set_option maxRecDepth 100000 in
theorem lifted (os : Os) (started : os.Started) (H : Type) (enc : TypeId × Value → H) :
    ReturnsInHanded {} Try.checked os 5 .any (Rows.blocksPiecesSpec.pre6 enc Try.prog Try.f5 Rows.blocksPiecesRow.domain false) (Rows.blocksPiecesSpec.post enc Try.prog Try.f5 false true false false) :=
  law_lifted (C := Try.checked) (s := Rows.blocksPiecesSpec) own laidOut (by kernel_rfl) Try.func5 Try.underlying4 rfl rfl rfl (fun _ => law_spec3 fun _ _ _ => rfl) (of_decide_eq_true (by kernel_rfl)) os started H enc
    (ChangeSpec.witness6 (enc := enc) (C := Try.checked) false ⟨#[], #[.slice none 0 0, .agg #[.int .i64 0, .int .i64 0, .int .i64 0, .int .i64 0], .int .i64 0], []⟩ 8 (by kernel_rfl) (by kernel_rfl) (by kernel_rfl) (by kernel_rfl)) lawWalk

theorem over : Rows.blocksPiecesRow.holds Try.pinned (OpenSpec.ofChange Rows.blocksPiecesSpec) :=
  OpenClaim.holds_of_wide 5 Try.f5 rfl rfl rfl rfl rfl rfl rfl ⟨rfl, rfl, rfl, rfl, rfl⟩ rfl rfl rfl rfl rfl (by kernel_rfl) Try.func5 (by kernel_rfl)
    (of_decide_eq_true (by kernel_rfl)) (by unfold Func.isWrapper; first | (rw [if_pos (by decide +kernel)]; kernel_rfl) | (rw [if_neg (by decide +kernel)]; exact ⟨rfl, rfl⟩))
    (fun os started H enc _ => lifted os started H enc)

theorem proved : Rows.BlocksPiecesSaid := over
#print axioms proved
end Go.Proofs.Ytdajnkcjdmnnkaa.blocksPieces
