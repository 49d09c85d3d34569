/-
  VarintPuts: any number is the bytes that the document says.
  No condition: every input that the row lets in.
-/
import Derived.Test.YtokpcpopibpebaaRows
import Derived.Test.YtokpcpopibpebaaLaw
import Derived.Test.YtokpcpopibpebaaAlive
namespace Go.Proofs.Ytokpcpopibpebaa.varintPuts
open Go Go.RowKit Go.ChangeShapes Go.WideShapes Go.ChangeAt

theorem own : ownKnob Try.prog.godebug = none := by kernel_rfl
theorem laidOut : laidOutB Try.prog = true := by kernel_rfl

theorem walk (n : Nat) (w : World) (hn : n < 18446744073709551616) :
    Calls Try.prog 3 #[.int .u64 n] w fun e w' => e = .returned (.bool true) ∧ Below w.heap.size w w' := by
  have c1 := fun w => put_any n w hn
  have c2 := fun w => rput_any n w hn
  have C1 := Lib.hid c1
  have C2 := Lib.hid c2
  clear c1 c2 hn
  go_enter Try.func3, Try.ntmps3
  go_wp2_with (go_at_call 17; refine (C1.out _).mono ?_; rintro e w1 ⟨A1, k1, rfl, hown1, hB1⟩)
  go_wp2_with (go_at_call 18; refine (C2.out _).mono ?_; rintro e w2 ⟨A2, k2, rfl, hown2, hB2⟩)
  have r1 := (Rd.of_own hown1).below hB2
  have r2 := Rd.of_own hown2
  have hx := V.put_byte n
  refine (same_any r1 r2 hx hx).mono ?_
  rintro e w3 ⟨rfl, rfl⟩
  have hB := hB1.trans (hB2.mono hB1.size)
  clear r1 r2 hx hown1 hown2 hB1 hB2
  have hd : decide (V.put n = V.put n) = true := by simp
  go_wp2_with (go_at_call 19; refine (alive_any _).mono ?_; rintro e w3 ⟨rfl, hB3⟩)
  go_ret
  exact ⟨by simp, hB.trans (hB3.mono hB.size)⟩

theorem lawWalk : LawWalk Try.checked 3 Try.f3 := by
  intro H enc W base args ds ps hval hA hsz
  have hA' : DataW.TrodAll enc Try.prog W 0 (fun _ => true) true Try.f3.params.toList args.toList ds ps := hA
  have hval' : ∀ (j : Nat) t v, Try.f3.params[j]? = some t → args[j]? = some v → Value.okWide Try.prog W .any base t v := hval
  rw [Try.params3] at hA' hval'
  obtain ⟨v0, vs0, d0, ds0, p0, q0, hargs, rfl, rfl, h0, r0⟩ := trodAll_cons hA'
  obtain ⟨rfl, rfl, rfl⟩ := trodAll_nil r0
  obtain rfl : args = #[v0] := by cases args; simp_all
  obtain ⟨a0, rfl, rfl, rfl, w0⟩ := open_int Try.underlying22 (hval' 0 22 v0 rfl rfl) h0
  have b0 := bounds_u64 w0
  obtain ⟨n, rfl⟩ := Int.eq_ofNat_of_zero_le b0.1
  exact walk n W (by omega)

set_option maxRecDepth 100000 in
theorem lifted (os : Os) (started : os.Started) (H : Type) (enc : TypeId × Value → H) :
    ReturnsInHanded {} Try.checked os 3 .any (Rows.varintPutsSpec.pre6 enc Try.prog Try.f3 Rows.varintPutsRow.domain false) (Rows.varintPutsSpec.post enc Try.prog Try.f3 false true false false) :=
  law_lifted (C := Try.checked) (s := Rows.varintPutsSpec) own laidOut (by kernel_rfl) Try.func3 Try.underlying4 rfl rfl rfl (fun _ => law_spec1 fun _ => rfl) (of_decide_eq_true (by kernel_rfl)) os started H enc
    (ChangeSpec.witness6 (enc := enc) (C := Try.checked) false ⟨#[], #[.int .u64 0], []⟩ 8 (by kernel_rfl) (by kernel_rfl) (by kernel_rfl) (by kernel_rfl)) lawWalk

theorem over : Rows.varintPutsRow.holds Try.pinned (OpenSpec.ofChange Rows.varintPutsSpec) :=
  OpenClaim.holds_of_wide 3 Try.f3 rfl rfl rfl rfl rfl rfl rfl ⟨rfl, rfl, rfl, rfl, rfl⟩ rfl rfl rfl rfl rfl (by kernel_rfl) Try.func3 (by kernel_rfl)
    (of_decide_eq_true (by kernel_rfl)) (by unfold Func.isWrapper; first | (rw [if_pos (by decide +kernel)]; kernel_rfl) | (rw [if_neg (by decide +kernel)]; exact ⟨rfl, rfl⟩))
    (fun os started H enc _ => lifted os started H enc)

theorem proved : Rows.VarintPutsSaid := over
#print axioms proved
end Go.Proofs.Ytokpcpopibpebaa.varintPuts
