/-
  The walks of Take, the program's and the reference's.
-/
import Derived.Test.YtokpcpopibpebaaSame
namespace Go.Proofs.Ytokpcpopibpebaa
open Go Go.RowKit

/-- What Take answers, part by part. -/
def tN (l : List Nat) : Nat := match V.take l with | some (n, _) => n | none => 0
def tK (l : List Nat) : Nat := match V.take l with | some (_, k) => k | none => 0
def tE (l : List Nat) : Int := match V.take l with | some _ => 0 | none => 31

def TakeRel (l : List Nat) (n : Nat) (a i : Value) : Prop :=
  ∃ k acc : Nat, i = .int .i64 k ∧ a = .int .u64 acc ∧ k ≤ n ∧ k ≤ 10 ∧ acc < 128 ^ k ∧ V.takeFrom (l.drop k) k acc = V.take l

theorem T_none {l : List Nat} (h : V.take l = none) : tN l = 0 ∧ tK l = 0 ∧ tE l = 31 := by simp [tN, tK, tE, h]
theorem T_some {l : List Nat} {n k : Nat} (h : V.take l = some (n, k)) : tN l = n ∧ tK l = k ∧ tE l = 0 := by simp [tN, tK, tE, h]

theorem drop_at {l : List Nat} {k x : Nat} (h : l[k]? = some x) : l.drop k = x :: l.drop (k + 1) := by
  have hk : k < l.length := by
    rcases Nat.lt_or_ge k l.length with h' | h'
    · exact h'
    · rw [List.getElem?_eq_none h'] at h; cases h
  rw [List.drop_eq_getElem_cons hk]
  rw [List.getElem?_eq_getElem hk] at h
  injection h with h
  rw [h]

section
variable {l : List Nat} {k x acc : Nat} (hx : l[k]? = some x) (ht : V.takeFrom (l.drop k) k acc = V.take l)
include hx ht
theorem step_nine (h : k = 9 ∧ 1 < x % 128) : V.take l = none := by
  rw [← ht, drop_at hx, V.takeFrom, if_neg (by omega), if_pos h]
theorem step_nought (hk : k < 10) (h9 : ¬ (k = 9 ∧ 1 < x % 128)) (h : x < 128) (h0 : 0 < k ∧ x % 128 = 0) : V.take l = none := by
  rw [← ht, drop_at hx, V.takeFrom, if_neg (by omega), if_neg h9, if_pos h, if_pos h0]
theorem step_last (hk : k < 10) (h9 : ¬ (k = 9 ∧ 1 < x % 128)) (h : x < 128) (h0 : ¬ (0 < k ∧ x % 128 = 0)) : V.take l = some (acc + x % 128 * 128 ^ k, k + 1) := by
  rw [← ht, drop_at hx, V.takeFrom, if_neg (by omega), if_neg h9, if_pos h, if_neg h0]
theorem step_on (hk : k < 10) (h9 : ¬ (k = 9 ∧ 1 < x % 128)) (h : ¬ x < 128) : V.takeFrom (l.drop (k + 1)) (k + 1) (acc + x % 128 * 128 ^ k) = V.take l := by
  rw [← ht, drop_at hx, V.takeFrom, if_neg (by omega), if_neg h9, if_neg h]
end
theorem step_acc {k x acc : Nat} (hacc : acc < 128 ^ k) : acc + x % 128 * 128 ^ k < 128 ^ (k + 1) := by
  have h2 : x % 128 * 128 ^ k ≤ 127 * 128 ^ k := Nat.mul_le_mul_right _ (by omega)
  rw [Nat.pow_succ]
  omega
theorem step_end {l : List Nat} {k acc n : Nat} (hl : l.length = n) (ht : V.takeFrom (l.drop k) k acc = V.take l) (h : ¬ (k < n ∧ k < 10)) (hk : k ≤ n) : V.take l = none := by
  rw [← ht]
  by_cases h10 : 10 ≤ k
  · cases l.drop k with
    | nil => rfl
    | cons y r => rw [V.takeFrom, if_pos h10]
  · have : k = n := by omega
    rw [List.drop_eq_nil_of_le (by omega)]
    rfl

/-- the answer of Take -/
def TakeRet (l : List Nat) (w : World) (e : Ending) (w' : World) : Prop := e = .returned (.tuple #[.int .u64 (tN l), .int .i64 (tK l), .int .i64 (tE l)]) ∧ w = w'
theorem TakeRet.none_ {l : List Nat} {w : World} (h : V.take l = none) : TakeRet l w (.returned (.tuple #[.int .u64 0, .int .i64 0, .int .i64 31])) w := by
  obtain ⟨a, b, c⟩ := T_none h
  exact ⟨by rw [a, b, c]; rfl, rfl⟩
theorem TakeRet.some_ {l : List Nat} {w : World} {n k : Nat} {N K : Int} (h : V.take l = some (n, k)) (hN : N = n) (hK : K = k) : TakeRet l w (.returned (.tuple #[.int .u64 N, .int .i64 K, .int .i64 0])) w := by
  obtain ⟨a, b, c⟩ := T_some h
  exact ⟨by rw [a, b, c, hN, hK], rfl⟩

set_option maxRecDepth 100000 in
theorem take_any {w : World} {B : Nat} {A : Option Addr} {n c : Nat} {l : List Nat} (h : Rd w B 1 A n (by8 l)) (hl : ∀ x ∈ l, x < 256) (hm : n ≤ maxLen) :
    Calls Try.prog 24 #[.slice A n c] w (TakeRet l w) := by
  have hlen : l.length = n := by simpa [by8_len] using h.len1
  have HL := Lib.hid hlen
  clear hlen
  have HB := Lib.hid hl
  clear hl
  have H := Lib.hid h
  clear h
  unfold maxLen at hm
  go_enter Try.func24, Try.ntmps24
  go_wp2
  all_goals
    go_loop [5, 11] (fun a i => TakeRel l n a i) (fun _ i => 11 - (intOf i).toNat)
    case atStart => exact ⟨0, 0, rfl, rfl, by omega, by omega, by simp, by simp [V.take]⟩
    case round =>
      obtain ⟨k, acc, rfl, rfl, hkn, hk10, hacc, ht⟩ := hrel
      have HA := Lib.hid hacc
      have HT := Lib.hid ht
      clear hacc ht
      by_cases hlt : k < n ∧ k < 10
      · obtain ⟨h1, h2⟩ := hlt
        obtain ⟨b, off, u, rfl, _, hu, hc⟩ := H.out.cell h1
        obtain ⟨x, hx⟩ : ∃ x : Nat, l[k]? = some x := ⟨l[k]'(by rw [HL.out]; exact h1), List.getElem?_eq_getElem _⟩
        have hu' : u = .int .u8 (x : Int) := by simpa [by8, hx] using hu.symm
        subst hu'
        have hx256 : x < 256 := HB.out x (List.mem_of_getElem? hx)
        have HX := Lib.hid hx
        clear hx hu
        have f1 := u8_and127 x hx256
        by_cases h9 : k = 9 ∧ 1 < x % 128
        · obtain ⟨h9a, h9b⟩ := h9
          have g9 : ((k : Int) == 9) = true := by simpa using (by omega : (k : Int) = 9)
          have R := Lib.hid (step_nine HX.out HT.out ⟨h9a, h9b⟩)
          clear h9a
          go_wp2
          go_ret3
          exact TakeRet.none_ R.out
        · have f2 := or_shift acc x k h2 HA.out h9
          obtain ⟨s, hs⟩ : ∃ s : Nat, s = acc + x % 128 * 128 ^ k := ⟨_, rfl⟩
          rw [← hs] at f2
          have HS := Lib.hid hs
          clear hs
          have H9 := Lib.hid h9
          have hg9 : (((k : Int) == 9) = true ∧ (x : Int) % 128 ≤ 1) ∨ ((k : Int) == 9) = false := by
            by_cases hk9 : k = 9
            · exact .inl ⟨by simpa using (by omega : (k : Int) = 9), by have : ¬ 1 < x % 128 := fun h => H9.out ⟨hk9, h⟩; omega⟩
            · exact .inr (by simpa using (by omega : ¬ (k : Int) = 9))
          clear h9
          by_cases hx128 : x < 128
          · by_cases h0 : 0 < k ∧ x % 128 = 0
            · have R := Lib.hid (step_nought HX.out HT.out h2 H9.out hx128 h0)
              obtain ⟨h0a, h0b⟩ := h0
              have g0 : ((x : Int) % 128 == 0) = true := by simpa using (by omega : (x : Int) % 128 = 0)
              clear h0b
              rcases hg9 with ⟨g9, hx1⟩ | g9
              all_goals
                go_wp2
                go_ret3
                exact TakeRet.none_ R.out
            · have R := Lib.hid (step_last HX.out HT.out h2 H9.out hx128 h0)
              have g0 : (0 < k ∧ ((x : Int) % 128 == 0) = false) ∨ k ≤ 0 := by
                by_cases hk0 : 0 < k
                · exact .inl ⟨hk0, by simpa using (by omega : ¬ (x : Int) % 128 = 0)⟩
                · exact .inr (by omega)
              clear h0
              rcases hg9 with ⟨g9, hx1⟩ | g9
              all_goals
                rcases g0 with ⟨hk0, g0⟩ | hk0
                all_goals
                  go_wp2
                  go_ret3
                  exact TakeRet.some_ R.out (by rw [← HS.out]) (by simp)
          · have R := Lib.hid (step_on HX.out HT.out h2 H9.out hx128)
            have RA := Lib.hid (step_acc (x := x) HA.out)
            rcases hg9 with ⟨g9, hx1⟩ | g9
            all_goals
              go_wp2
              go_round
              case rel => exact ⟨k + 1, s, by go_num, rfl, by omega, by omega, by rw [HS.out]; exact RA.out, by rw [HS.out]; exact R.out⟩
              case measure => simp [intOf]; omega
      · have R := Lib.hid (step_end HL.out HT.out hlt hkn)
        go_wp2
        go_ret3
        exact TakeRet.none_ R.out
end Go.Proofs.Ytokpcpopibpebaa
