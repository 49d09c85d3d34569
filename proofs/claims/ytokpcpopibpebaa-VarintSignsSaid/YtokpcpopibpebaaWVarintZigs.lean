/-
  THE WALKS OF VarintZigs AND VarintSigns.
-/
import Derived.Test.YtokpcpopibpebaaZig
import Derived.Test.YtokpcpopibpebaaAlive
namespace Go.Proofs.Ytokpcpopibpebaa
open Go Go.RowKit

theorem zig_m1 : zig (-1) = 1 := rfl

theorem varintZigs.walk (W : World) (n : Int) (l : -9223372036854775808 ≤ n) (u : n < 9223372036854775808) (m : Nat) (b : m < 18446744073709551616) :
    Calls Try.prog 4 #[.int .i64 n, .int .u64 m] W fun e w' => e = .returned (.bool true) ∧ Below W.heap.size W w' := by
  have c1 := Lib.hid (fun w => zig_any n w l u)
  have c2 := Lib.hid (fun w => rzig_any n w l u)
  have c3 := Lib.hid (fun w => zag_any m w b)
  have c4 := Lib.hid (fun w => rzag_any m w b)
  have c5 := Lib.hid (fun w => zig_any (-1) w (by omega) (by omega))
  clear l u b
  go_enter Try.func4, Try.ntmps4
  go_wp2_with fail
  refine (alive_any _).mono ?_
  rintro e w3 ⟨rfl, hB3⟩
  go_wp2_with fail
  refine (c5.out _).mono ?_
  rintro e w' ⟨rfl, rfl⟩
  rw [zig_m1]
  go_wp2_with fail
  refine (c1.out _).mono ?_
  rintro e w' ⟨rfl, rfl⟩
  go_wp2_with fail
  refine (c2.out _).mono ?_
  rintro e w' ⟨rfl, rfl⟩
  go_wp2_with fail
  refine (c3.out _).mono ?_
  rintro e w' ⟨rfl, rfl⟩
  go_wp2_with fail
  refine (c4.out _).mono ?_
  rintro e w' ⟨rfl, rfl⟩
  go_wp2_with fail
  go_ret
  exact ⟨by simp, hB3⟩

theorem half_range (n : Int) : (0 ≤ n → 0 ≤ n.tdiv 2 ∧ n.tdiv 2 ≤ n) ∧ (n ≤ 0 → n ≤ n.tdiv 2 ∧ n.tdiv 2 ≤ 0) := by
  by_cases h : 0 ≤ n
  · rw [Int.tdiv_eq_ediv_of_nonneg h]; omega
  · have e : n.tdiv 2 = -((-n) / 2) := by
      have := Int.neg_tdiv (-n) 2
      rw [Int.neg_neg] at this
      rw [this, Int.tdiv_eq_ediv_of_nonneg (by omega)]
    rw [e]
    omega

theorem half_less (n : Int) (h0 : ¬ n = 0) : zig (n.tdiv 2) < zig n := by
  unfold zig
  by_cases h : 0 ≤ n
  · rw [Int.tdiv_eq_ediv_of_nonneg h, if_pos (by omega), if_pos h]; omega
  · have e : n.tdiv 2 = -((-n) / 2) := by
      have := Int.neg_tdiv (-n) 2
      rw [Int.neg_neg] at this
      rw [this, Int.tdiv_eq_ediv_of_nonneg (by omega)]
    rw [e, if_neg h]
    split <;> omega

theorem varintSigns.walk (W : World) (n : Int) (l : -9223372036854775808 ≤ n) (u : n < 9223372036854775808) (m : Nat) (b : m < 18446744073709551616) :
    Calls Try.prog 5 #[.int .i64 n, .int .u64 m] W fun e w' => e = .returned (.bool true) ∧ Below W.heap.size W w' := by
  have rz := zig_range n l u
  have rg := zag_range m (by omega) (by omega)
  obtain ⟨z, hz⟩ := Int.eq_ofNat_of_zero_le rz.1
  have c1 := Lib.hid (fun w => zig_any n w l u)
  have c2 := Lib.hid (fun w => zag_any z w (by omega))
  have c3 := Lib.hid (fun w => zag_any m w b)
  have c4 := Lib.hid (fun w => zig_any (zag m) w rg.1 rg.2)
  have e2 : zag z = n := by rw [← hz]; exact zag_zig n
  have e4 := zig_zag m (by omega)
  have hl := Lib.hid (half_less n)
  have E2 := Lib.hid e2
  have E4 := Lib.hid e4
  have HZ := Lib.hid hz
  have hr := half_range n
  have c0 := Lib.hid (fun w => zig_any (n.tdiv 2) w (by omega) (by omega))
  have hwr : IntKind.i64.wrap (n.tdiv 2) = n.tdiv 2 := by
    rw [IntKind.wrap_i64]
    omega
  clear e2 e4 hz rz rg b hr
  by_cases k1 : n < -4611686018427387904
  · have g1 : decide (n < -4611686018427387904) = true := by simpa using k1
    clear l u k1
    go_enter Try.func5, Try.ntmps5
    go_wp2_with fail
    refine (alive_any _).mono ?_
    rintro e w3 ⟨rfl, hB3⟩
    go_wp2_with fail
    refine (c1.out _).mono ?_
    rintro e w' ⟨rfl, rfl⟩
    rw [HZ.out]
    go_wp2_with fail
    refine (c2.out _).mono ?_
    rintro e w' ⟨rfl, rfl⟩
    rw [E2.out]
    go_wp2_with fail
    refine (c3.out _).mono ?_
    rintro e w' ⟨rfl, rfl⟩
    go_wp2_with fail
    refine (c4.out _).mono ?_
    rintro e w' ⟨rfl, rfl⟩
    rw [E4.out]
    go_wp2_with fail
    go_ret
    exact ⟨by simp, hB3⟩
  · have g1 : decide (n < -4611686018427387904) = false := by simpa using k1
    by_cases k2 : 4611686018427387904 ≤ n
    · have g2 : decide (4611686018427387904 ≤ n) = true := by simpa using k2
      clear l u k1 k2
      go_enter Try.func5, Try.ntmps5
      go_wp2_with fail
      refine (alive_any _).mono ?_
      rintro e w3 ⟨rfl, hB3⟩
      go_wp2_with fail
      refine (c1.out _).mono ?_
      rintro e w' ⟨rfl, rfl⟩
      rw [HZ.out]
      go_wp2_with fail
      refine (c2.out _).mono ?_
      rintro e w' ⟨rfl, rfl⟩
      rw [E2.out]
      go_wp2_with fail
      refine (c3.out _).mono ?_
      rintro e w' ⟨rfl, rfl⟩
      go_wp2_with fail
      refine (c4.out _).mono ?_
      rintro e w' ⟨rfl, rfl⟩
      rw [E4.out]
      go_wp2_with fail
      go_ret
      exact ⟨by simp, hB3⟩
    · have g2 : decide (4611686018427387904 ≤ n) = false := by simpa using k2
      by_cases k3 : n = 0
      · have g3 : (n == 0) = true := by simpa using k3
        clear l u k1 k2 k3
        go_enter Try.func5, Try.ntmps5
        go_wp2_with fail
        refine (alive_any _).mono ?_
        rintro e w3 ⟨rfl, hB3⟩
        go_wp2_with fail
        refine (c1.out _).mono ?_
        rintro e w' ⟨rfl, rfl⟩
        rw [HZ.out]
        go_wp2_with fail
        refine (c2.out _).mono ?_
        rintro e w' ⟨rfl, rfl⟩
        rw [E2.out]
        go_wp2_with fail
        refine (c3.out _).mono ?_
        rintro e w' ⟨rfl, rfl⟩
        go_wp2_with fail
        refine (c4.out _).mono ?_
        rintro e w' ⟨rfl, rfl⟩
        rw [E4.out]
        go_wp2_with fail
        go_ret
        exact ⟨by simp, hB3⟩
      · have g3 : (n == 0) = false := by simpa using k3
        have hlt := hl.out k3
        rw [HZ.out] at hlt
        have hlt' : decide (zig (n.tdiv 2) < (z : Int)) = true := by simpa using hlt
        clear l u k1 k2 k3 hlt hl
        go_enter Try.func5, Try.ntmps5
        go_wp2_with fail
        refine (c0.out _).mono ?_
        rintro e w' ⟨rfl, rfl⟩
        go_wp2_with fail
        refine (c1.out _).mono ?_
        rintro e w' ⟨rfl, rfl⟩
        rw [HZ.out]
        go_wp2_with fail
        refine (alive_any _).mono ?_
        rintro e w3 ⟨rfl, hB3⟩
        go_wp2_with fail
        refine (c1.out _).mono ?_
        rintro e w' ⟨rfl, rfl⟩
        rw [HZ.out]
        go_wp2_with fail
        refine (c2.out _).mono ?_
        rintro e w' ⟨rfl, rfl⟩
        rw [E2.out]
        go_wp2_with fail
        refine (c3.out _).mono ?_
        rintro e w' ⟨rfl, rfl⟩
        go_wp2_with fail
        refine (c4.out _).mono ?_
        rintro e w' ⟨rfl, rfl⟩
        rw [E4.out]
        go_wp2_with fail
        go_ret
        exact ⟨by simp, hB3⟩
end Go.Proofs.Ytokpcpopibpebaa
