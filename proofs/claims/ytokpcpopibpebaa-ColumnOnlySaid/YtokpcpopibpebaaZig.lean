/-
  The walks of Zig and Zag, the program's and the reference's.
-/
import Derived.Test.YtokpcpopibpebaaProg
import Derived.Test.YtokpcpopibpebaaKit
import Derived.Test.YtokpcpopibpebaaBits
namespace Go.Proofs.Ytokpcpopibpebaa
open Go Go.RowKit

theorem zig_any (n : Int) (w : World) (h1 : -9223372036854775808 ≤ n) (h2 : n < 9223372036854775808) : Calls Try.prog 20 #[.int .i64 n] w fun e w' => e = .returned (.int .u64 (zig n)) ∧ w = w' := by
  have hz := Lib.hid (zig_bits n h1 h2)
  clear h1 h2
  go_enter Try.func20, Try.ntmps20
  go_wp2
  go_ret
  exact ⟨ret_int hz.out, rfl⟩
theorem rzig_any (n : Int) (w : World) (h1 : -9223372036854775808 ≤ n) (h2 : n < 9223372036854775808) : Calls Try.prog 21 #[.int .i64 n] w fun e w' => e = .returned (.int .u64 (zig n)) ∧ w = w' := by
  have hz := Lib.hid (fun h => rzig_pos n h h2)
  have hy := Lib.hid (fun h => rzig_neg n h1 h)
  clear h1 h2
  go_enter Try.func21, Try.ntmps21
  go_wp2
  all_goals go_ret
  · have h : 0 ≤ n := by assumption
    exact ⟨ret_int (hz.out h), rfl⟩
  · have h : n < 0 := by assumption
    exact ⟨ret_int (hy.out h), rfl⟩
theorem zag_any (n : Nat) (w : World) (h : n < 18446744073709551616) : Calls Try.prog 22 #[.int .u64 n] w fun e w' => e = .returned (.int .i64 (zag n)) ∧ w = w' := by
  have hz := Lib.hid (zag_bits n h)
  clear h
  go_enter Try.func22, Try.ntmps22
  go_wp2
  go_ret
  exact ⟨ret_int hz.out, rfl⟩
theorem rzag_any (n : Nat) (w : World) (h : n < 18446744073709551616) : Calls Try.prog 23 #[.int .u64 n] w fun e w' => e = .returned (.int .i64 (zag n)) ∧ w = w' := by
  have hz := Lib.hid (fun h0 => rzag_even n h h0)
  have hy := Lib.hid (fun h0 => rzag_odd n h h0)
  clear h
  go_enter Try.func23, Try.ntmps23
  go_wp2
  all_goals go_ret
  · have h : ((n : Int) % 2 == 0) = true := by assumption
    exact ⟨ret_int (hz.out h), rfl⟩
  · have h : ((n : Int) % 2 == 0) = false := by assumption
    exact ⟨ret_int (hy.out h), rfl⟩
end Go.Proofs.Ytokpcpopibpebaa
