/-
  THE WALK OF GrammarKinds.
-/
import Derived.Test.YtcdhndhgainadaaRightF
import Derived.Test.YtcdhndhgainadaaOpenD
namespace Go.Proofs.Ytcdhndhgainadaa.grammarKinds
open Go Go.RowKit
set_option linter.unusedVariables false

set_option maxRecDepth 100000 in
set_option maxHeartbeats 2000000 in
theorem walk (W : World) (a b : ByteArray) : Calls Try.prog 3 #[.string a, .string b] W fun e w' => e = .returned (.bool true) ∧ Below W.heap.size W w' := by
  obtain ⟨x, hx⟩ : ∃ x, (kd a).allows (kd b) = x := ⟨_, rfl⟩
  obtain ⟨y, hy⟩ : ∃ y, (kd a).holds = y := ⟨_, rfl⟩
  have HA := Lib.hid (allows_any a b)
  have HB := Lib.hid (rallows_any a b)
  have HC := Lib.hid (holds_any a)
  have HD := Lib.hid (rholds_any a)
  simp only [hx, hy] at HA HB HC HD
  clear hx hy
  go_enter Try.func3, Try.ntmps3
  go_wp2_with fail
  refine (alive_any W).mono ?_
  rintro e w1 ⟨rfl, hB1⟩
  have H1 := Lib.hid hB1
  clear hB1
  go_wp2_with fail
  refine (HA.out w1).mono ?_
  rintro e w2 ⟨rfl, hB2⟩
  have H2 := Lib.hid (H1.out.trans (hB2.mono H1.out.size))
  clear hB2
  go_wp2_with fail
  refine (HB.out w2).mono ?_
  rintro e w' ⟨rfl, rfl⟩
  go_wp2_with fail
  have hxx : (x == x) = true := by simp
  have hyy : (y == y) = true := by simp
  refine (HC.out w').mono ?_
  rintro e w3 ⟨rfl, hB3⟩
  have H3 := Lib.hid (H2.out.trans (hB3.mono H2.out.size))
  clear hB3
  go_wp2_with fail
  refine (HD.out w3).mono ?_
  rintro e w'' ⟨rfl, rfl⟩
  go_wp2_with fail
  go_ret
  exact ⟨rfl, H3.out⟩
end Go.Proofs.Ytcdhndhgainadaa.grammarKinds
