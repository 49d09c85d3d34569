/-
  THE WALK OF BlocksSplit.
-/
import Derived.Test.YtdajnkcjdmnnkaaSplitNeg
import Derived.Test.YtdajnkcjdmnnkaaSplitPos
namespace Go.Proofs.Ytdajnkcjdmnnkaa
open Go Go.RowKit
set_option linter.unusedVariables false

set_option maxRecDepth 100000 in
set_option maxHeartbeats 2000000 in
theorem blocksSplit.walk (W : World) (A : Option Addr) (n c : Nat) (l : List El) (k : ElsIn W A n c l) (at_ : Int) (hal : -9223372036854775808 ≤ at_) (hah : at_ < 9223372036854775808) (sn sr : Int) (kn : In64 sn) (kr : In64 sr) :
    Calls Try.prog 4 #[.slice A n c, .int .i64 at_, .agg #[.int .i64 sn, .int .i64 sr]] W fun e w' => e = .returned (.bool true) ∧ Below W.heap.size W w' := by
  by_cases h200 : 200 < n
  · have hcap := k.cap
    have hmax := k.max
    clear k kn kr hal hah
    unfold maxLen at hmax
    go_enter Try.func4, Try.ntmps4
    go_wp2_with fail
    refine (alive_any _).mono ?_
    rintro e w4 ⟨rfl, hB4⟩
    go_wp2_with fail
    go_ret
    exact ⟨rfl, ((Below.refl _ W).alloc (Nat.le_refl _) _).trans (hB4.mono (by simp))⟩
  by_cases h0 : at_ < 0
  · exact blocksSplit.neg W A n c l k at_ hal hah sn sr kn kr h200 h0
  · exact blocksSplit.pos W A n c l k at_ hal hah sn sr kn kr h200 (by omega)
end Go.Proofs.Ytdajnkcjdmnnkaa
