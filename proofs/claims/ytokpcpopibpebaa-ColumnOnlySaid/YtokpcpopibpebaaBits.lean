/-
  Bits of numbers: what the walks of varint compute, in plain numbers.
-/
import Derived.Laws.BitsAllLaws
import Derived.Laws.BitsLemmas
import Derived.IntWalk
import Derived.WalkKit
namespace Go.Proofs.Ytokpcpopibpebaa
open Go Go.RowKit

theorem u8_or128_mod (n : Nat) : bits .or .u8 ((n : Int) % 256) 128 = ((n % 128 + 128 : Nat) : Int) := by
  have h := u8_or_nat (n % 256) 128 (by omega) (by omega)
  have e : ((n % 256 : Nat) : Int) = (n : Int) % 256 := by omega
  rw [e] at h
  have h2 : (n % 256) ||| 128 = n % 128 + 128 := by
    by_cases hb : n % 256 < 128
    · rw [Nat.or_comm]
      have := nat_join 7 128 (n % 256) (by decide) (by simpa using hb)
      omega
    · have hx : n % 256 = 128 + n % 128 := by omega
      have h3 := nat_join 7 128 (n % 128) (by decide) (by omega)
      rw [hx, ← h3, Nat.or_comm, ← Nat.or_assoc, Nat.or_self, h3]
      omega
  rw [h2] at h
  exact h

theorem u8_and127 (c : Nat) (h : c < 256) : bits .and .u8 (c : Int) 127 = ((c % 128 : Nat) : Int) := by
  have h1 := u8_and_nat c 127 h (by omega)
  rw [nat_mask7] at h1
  exact h1

theorem join_lt (acc x i : Nat) (hi : i < 10) (hacc : acc < 128 ^ i) (hx : x < 128) (h9 : ¬ (i = 9 ∧ 1 < x)) : acc + x * 128 ^ i < 18446744073709551616 := by
  by_cases h : i = 9
  · subst h
    have h4 : (128 : Nat) ^ 9 = 9223372036854775808 := by decide
    rw [h4] at *
    omega
  · have h1 : 128 ^ (i + 1) ≤ 128 ^ 9 := Nat.pow_le_pow_right (by omega) (by omega)
    have h4 : (128 : Nat) ^ 9 = 9223372036854775808 := by decide
    have h2 : x * 128 ^ i ≤ 127 * 128 ^ i := Nat.mul_le_mul_right _ (by omega)
    rw [Nat.pow_succ] at h1
    omega

theorem u64_or_join (acc x i : Nat) (hi : i < 10) (hacc : acc < 128 ^ i) (hx : x < 128) (h9 : ¬ (i = 9 ∧ 1 < x)) :
    bits .or .u64 (acc : Int) ((x * 128 ^ i : Nat) : Int) = ((acc + x * 128 ^ i : Nat) : Int) := by
  have hlt := join_lt acc x i hi hacc hx h9
  rw [u64_or_nat acc _ (by omega) (by omega), Nat.or_comm]
  have e : (128 : Nat) ^ i = 2 ^ (7 * i) := by rw [Nat.pow_mul]
  have := nat_join (7 * i) (x * 128 ^ i) acc (by rw [e]; simp) (by rw [← e]; exact hacc)
  rw [this, Nat.add_comm]

theorem u64_wrap_of (x : Int) (h0 : 0 ≤ x) (h : x < 18446744073709551616) : IntKind.u64.wrap x = x := by rw [IntKind.wrap_u64]; omega

theorem xor_ones (a : Nat) (h : a < 18446744073709551616) : (BitVec.ofInt 64 (a : Int) ^^^ BitVec.ofInt 64 18446744073709551615).toNat = 18446744073709551615 - a := by
  have e : BitVec.ofInt 64 18446744073709551615 = BitVec.allOnes 64 := by decide
  rw [e, BitVec.xor_allOnes, BitVec.toNat_not, ofInt_u64 a h]

theorem xor_ones_i (a : Nat) (h : a < 18446744073709551616) : (BitVec.ofInt 64 (a : Int) ^^^ BitVec.ofInt 64 (-1)).toNat = 18446744073709551615 - a := by
  have e : BitVec.ofInt 64 (-1) = BitVec.allOnes 64 := by decide
  rw [e, BitVec.xor_allOnes, BitVec.toNat_not, ofInt_u64 a h]

/-- N2 -/
def zig (n : Int) : Int := if 0 ≤ n then 2 * n else -2 * n - 1
def zag (m : Int) : Int := if m % 2 = 0 then m / 2 else -(m / 2) - 1

theorem zig_bits (n : Int) (h1 : -9223372036854775808 ≤ n) (h2 : n < 9223372036854775808) :
    bits .xor .u64 (IntKind.u64.wrap (IntKind.u64.wrap n * 2)) (IntKind.u64.wrap (n / 9223372036854775808)) = zig n := by
  unfold zig
  by_cases h : 0 ≤ n
  · rw [if_pos h]
    have e1 : IntKind.u64.wrap (IntKind.u64.wrap n * 2) = ((2 * n.toNat : Nat) : Int) := by rw [IntKind.wrap_u64, IntKind.wrap_u64]; omega
    have e2 : IntKind.u64.wrap (n / 9223372036854775808) = ((0 : Nat) : Int) := by rw [IntKind.wrap_u64]; omega
    rw [e1, e2, u64_xor_nat _ 0 (by omega) (by omega), Nat.xor_zero]
    omega
  · rw [if_neg h]
    have e1 : IntKind.u64.wrap (IntKind.u64.wrap n * 2) = (((2 * n + 18446744073709551616).toNat : Nat) : Int) := by rw [IntKind.wrap_u64, IntKind.wrap_u64]; omega
    have e2 : IntKind.u64.wrap (n / 9223372036854775808) = 18446744073709551615 := by rw [IntKind.wrap_u64]; omega
    rw [e1, e2]
    show IntKind.u64.wrap ((BitVec.ofInt 64 _ ^^^ BitVec.ofInt 64 18446744073709551615).toNat : Int) = _
    rw [xor_ones _ (by omega), IntKind.wrap_u64]
    omega

theorem rzig_pos (n : Int) (h1 : 0 ≤ n) (h2 : n < 9223372036854775808) : IntKind.u64.wrap (2 * IntKind.u64.wrap n) = zig n := by
  unfold zig
  rw [if_pos h1, IntKind.wrap_u64, IntKind.wrap_u64]
  omega

theorem rzig_neg (n : Int) (h1 : -9223372036854775808 ≤ n) (h2 : n < 0) : IntKind.u64.wrap (IntKind.u64.wrap (2 * IntKind.u64.wrap (wrap64 (-wrap64 (n + 1)))) + 1) = zig n := by
  have w1 : wrap64 (n + 1) = n + 1 := IntWalk.wrap64_in _ (by omega)
  have w2 : wrap64 (-(n + 1)) = -(n + 1) := IntWalk.wrap64_in _ (by omega)
  unfold zig
  rw [if_neg (by omega), w1, w2, IntKind.wrap_u64, IntKind.wrap_u64, IntKind.wrap_u64]
  omega

theorem and_one (n : Nat) (h : n < 18446744073709551616) : bits .and .u64 (n : Int) 1 = ((n % 2 : Nat) : Int) := by
  have := u64_and_nat n 1 h (by omega)
  rw [nat_mask1] at this
  exact this

theorem zag_bits (n : Nat) (h : n < 18446744073709551616) :
    bits .xor .i64 (wrap64 ((n : Int) / 2)) (wrap64 (-wrap64 (bits .and .u64 (n : Int) 1))) = zag n := by
  rw [and_one n h]
  have w0 : wrap64 ((n % 2 : Nat) : Int) = ((n % 2 : Nat) : Int) := IntWalk.wrap64_in _ (by omega)
  have w1 : wrap64 ((n : Int) / 2) = ((n / 2 : Nat) : Int) := by
    have : ((n / 2 : Nat) : Int) = (n : Int) / 2 := by omega
    rw [this]
    exact IntWalk.wrap64_in _ (by omega)
  have w2 : wrap64 (-((n % 2 : Nat) : Int)) = -((n % 2 : Nat) : Int) := IntWalk.wrap64_in _ (by omega)
  rw [w0, w1, w2]
  unfold zag
  by_cases h0 : n % 2 = 0
  · rw [if_pos (by omega), h0]
    show IntKind.i64.wrap ((BitVec.ofInt 64 _ ^^^ BitVec.ofInt 64 (-0)).toNat : Int) = _
    have e : BitVec.ofInt 64 (-0) = 0#64 := by decide
    rw [e, BitVec.xor_zero, ofInt_u64 _ (by omega), IntKind.wrap_i64]
    omega
  · rw [if_neg (by omega), show n % 2 = 1 by omega]
    show IntKind.i64.wrap ((BitVec.ofInt 64 _ ^^^ BitVec.ofInt 64 (-1)).toNat : Int) = _
    rw [xor_ones_i _ (by omega), IntKind.wrap_i64]
    omega

theorem rzag_even (n : Nat) (h : n < 18446744073709551616) (h0 : ((n : Int) % 2 == 0) = true) : wrap64 (IntKind.u64.wrap ((n : Int) / 2)) = zag n := by
  have h0' : (n : Int) % 2 = 0 := by simpa using h0
  rw [u64_wrap_of _ (by omega) (by omega)]
  unfold zag
  rw [if_pos h0']
  exact IntWalk.wrap64_in _ (by omega)

theorem rzag_odd (n : Nat) (h : n < 18446744073709551616) (h0 : ((n : Int) % 2 == 0) = false) : wrap64 (wrap64 (-wrap64 (IntKind.u64.wrap ((n : Int) / 2))) - 1) = zag n := by
  have h0' : ¬ (n : Int) % 2 = 0 := by simpa using h0
  rw [u64_wrap_of _ (by omega) (by omega)]
  have w1 : wrap64 ((n : Int) / 2) = (n : Int) / 2 := IntWalk.wrap64_in _ (by omega)
  have w2 : wrap64 (-((n : Int) / 2)) = -((n : Int) / 2) := IntWalk.wrap64_in _ (by omega)
  unfold zag
  rw [if_neg h0', w1, w2]
  exact IntWalk.wrap64_in _ (by omega)

theorem zig_range (n : Int) (h1 : -9223372036854775808 ≤ n) (h2 : n < 9223372036854775808) : 0 ≤ zig n ∧ zig n < 18446744073709551616 := by unfold zig; split <;> omega
theorem zag_range (m : Int) (h1 : 0 ≤ m) (h2 : m < 18446744073709551616) : -9223372036854775808 ≤ zag m ∧ zag m < 9223372036854775808 := by unfold zag; split <;> omega
theorem zag_zig (n : Int) : zag (zig n) = n := by unfold zag zig; split <;> split <;> omega
theorem zig_zag (m : Int) (h : 0 ≤ m) : zig (zag m) = m := by unfold zag zig; split <;> split <;> omega
theorem or_shift (acc x k : Nat) (hk : k < 10) (hacc : acc < 128 ^ k) (h9 : ¬ (k = 9 ∧ 1 < x % 128)) :
    bits .or .u64 (acc : Int) (IntKind.u64.wrap ((x : Int) % 128 * 2 ^ (7 * k))) = ((acc + x % 128 * 128 ^ k : Nat) : Int) := by
  have e : IntKind.u64.wrap ((x : Int) % 128 * 2 ^ (7 * k)) = ((x % 128 * 128 ^ k : Nat) : Int) := by
    have e1 : (x : Int) % 128 * 2 ^ (7 * k) = ((x % 128 * 128 ^ k : Nat) : Int) := by
      have : (128 : Nat) ^ k = 2 ^ (7 * k) := by rw [Nat.pow_mul]
      rw [this]
      simp
    rw [e1]
    refine u64_wrap_of _ (by omega) ?_
    have := join_lt acc (x % 128) k hk hacc (Nat.mod_lt _ (by omega)) h9
    omega
  rw [e]
  exact u64_or_join acc (x % 128) k hk hacc (Nat.mod_lt _ (by omega)) h9

theorem add_shift (acc x k : Nat) : IntKind.u64.wrap ((acc : Int) + IntKind.u64.wrap ((x : Int) % 128 * 2 ^ (7 * k))) = (((acc + x % 128 * 128 ^ k) % 18446744073709551616 : Nat) : Int) := by
  have e1 : (x : Int) % 128 * 2 ^ (7 * k) = ((x % 128 * 128 ^ k : Nat) : Int) := by
    have : (128 : Nat) ^ k = 2 ^ (7 * k) := by rw [Nat.pow_mul]
    rw [this]
    simp
  rw [e1, IntKind.wrap_u64, IntKind.wrap_u64]
  omega

theorem ret_int {k : IntKind} {a b : Int} (h : a = b) : Ending.returned (.int k a) = .returned (.int k b) := by rw [h]
end Go.Proofs.Ytokpcpopibpebaa
