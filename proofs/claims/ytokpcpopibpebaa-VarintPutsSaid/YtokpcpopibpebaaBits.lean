/-
  Bits of numbers: what the walks of varint compute, in plain numbers.
-/
import Derived.Laws.BitsAllLaws
import Derived.Laws.BitsLemmas
import Derived.IntWalk
namespace Go.Proofs.Ytokpcpopibpebaa
open Go

theorem u8_or128_mod (n : Nat) : bits .or .u8 ((n : Int) % 256) 128 = ((n % 128 + 128 : Nat) : Int) := by
  have h := u8_or_nat (n % 256) 128 (by omega) (by omega)
  have e : ((n % 256 : Nat) : Int) = (n : Int) % 256 := by omega
  rw [e] at h
  have h2 : (n % 256) ||| 128 = n % 128 + 128 := by
    by_cases hb : n % 256 < 128
    · rw [Nat.or_comm]
      have := nat_join 7 128 (n % 256) (by decide) (by simpa using hb)
      omega
    · have hx : n % 256 = 128 + n % 128 := by omega
      have h3 := nat_join 7 128 (n % 128) (by decide) (by omega)
      rw [hx, ← h3, Nat.or_comm, ← Nat.or_assoc, Nat.or_self, h3]
      omega
  rw [h2] at h
  exact h

theorem u8_and127 (c : Nat) (h : c < 256) : bits .and .u8 (c : Int) 127 = ((c % 128 : Nat) : Int) := by
  have h1 := u8_and_nat c 127 h (by omega)
  rw [nat_mask7] at h1
  exact h1

theorem join_lt (acc x i : Nat) (hi : i < 10) (hacc : acc < 128 ^ i) (hx : x < 128) (h9 : ¬ (i = 9 ∧ 1 < x)) : acc + x * 128 ^ i < 18446744073709551616 := by
  by_cases h : i = 9
  · subst h
    have h4 : (128 : Nat) ^ 9 = 9223372036854775808 := by decide
    rw [h4] at *
    omega
  · have h1 : 128 ^ (i + 1) ≤ 128 ^ 9 := Nat.pow_le_pow_right (by omega) (by omega)
    have h4 : (128 : Nat) ^ 9 = 9223372036854775808 := by decide
    have h2 : x * 128 ^ i ≤ 127 * 128 ^ i := Nat.mul_le_mul_right _ (by omega)
    rw [Nat.pow_succ] at h1
    omega

theorem u64_or_join (acc x i : Nat) (hi : i < 10) (hacc : acc < 128 ^ i) (hx : x < 128) (h9 : ¬ (i = 9 ∧ 1 < x)) :
    bits .or .u64 (acc : Int) ((x * 128 ^ i : Nat) : Int) = ((acc + x * 128 ^ i : Nat) : Int) := by
  have hlt := join_lt acc x i hi hacc hx h9
  rw [u64_or_nat acc _ (by omega) (by omega), Nat.or_comm]
  have e : (128 : Nat) ^ i = 2 ^ (7 * i) := by rw [Nat.pow_mul]
  have := nat_join (7 * i) (x * 128 ^ i) acc (by rw [e]; simp) (by rw [← e]; exact hacc)
  rw [this, Nat.add_comm]

theorem u64_wrap_of (x : Int) (h0 : 0 ≤ x) (h : x < 18446744073709551616) : IntKind.u64.wrap x = x := by rw [IntKind.wrap_u64]; omega
end Go.Proofs.Ytokpcpopibpebaa
