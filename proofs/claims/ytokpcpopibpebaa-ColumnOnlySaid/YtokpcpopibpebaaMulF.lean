/-
  math/bits.Mul at a first number 1.
-/
import Derived.Test.YtokpcpopibpebaaPut
import Derived.Lib.Mul64
import Derived.Laws.BitsAllLaws
namespace Go.Proofs.Ytokpcpopibpebaa
open Go Go.RowKit
set_option linter.unusedVariables false
set_option linter.unusedSimpArgs false

set_option maxRecDepth 100000 in
theorem mul64_one (k : Nat) (hk : k ≤ 65536) (w : World) : Calls Try.prog 50 #[.int .u64 1, .int .u64 (k : Int)] w fun e w' => e = .returned (.tuple #[.int .u64 0, .int .u64 (k : Int)]) ∧ w = w' := by
  have a1 : bits .and .u64 1 4294967295 = 1 := by decide +kernel
  have a2 : bits .and .u64 (k : Int) 4294967295 = (k : Int) := by
    have h := u64_and_nat k 4294967295 (by omega) (by omega)
    have e : k &&& 4294967295 = k := by
      have := Nat.and_two_pow_sub_one_eq_mod k 32
      simp at this
      rw [this]; omega
    rw [e] at h
    exact h
  have a3 : (k : Int) / 4294967296 = 0 := by omega
  have a4 : IntKind.u64.wrap (k : Int) = (k : Int) := by rw [IntKind.wrap_u64]; omega
  have a5 : bits .and .u64 0 4294967295 = 0 := by decide +kernel
  go_enter Try.func50, Try.ntmps50
  go_wp2
  go_ret2
  simp [a1, a2, a3, a4, a5]

set_option maxRecDepth 100000 in
theorem mul_one (k : Nat) (hk : k ≤ 65536) (w : World) : Calls Try.prog 48 #[.int .u64 1, .int .u64 (k : Int)] w fun e w' => e = .returned (.tuple #[.int .u64 0, .int .u64 (k : Int)]) ∧ w = w' := by
  have h := Lib.hid (mul64_one k hk w)
  go_enter Try.func48, Try.ntmps48
  go_wp2_with fail
  refine h.out.mono ?_
  rintro e w' ⟨rfl, rfl⟩
  go_wp2_with fail
  go_ret2
  exact ⟨rfl, rfl⟩
end Go.Proofs.Ytokpcpopibpebaa
