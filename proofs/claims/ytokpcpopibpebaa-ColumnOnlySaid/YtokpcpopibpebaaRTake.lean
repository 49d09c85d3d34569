/-
  The walk of the reference's Take: it answers as the program's.
-/
import Derived.Test.YtokpcpopibpebaaTake
import Derived.Deep.RegionWith
namespace Go.Proofs.Ytokpcpopibpebaa
open Go Go.RowKit

def RefRel (l : List Nat) (n : Nat) (a i : Value) : Prop :=
  ∃ k acc : Nat, i = .int .i64 k ∧ a = .int .u64 acc ∧ k ≤ n ∧ k ≤ 10 ∧ V.refFrom l (l.drop k) k acc = V.take l

/-- the answer of the reference's Take: it may make memory -/
def RTakeRet (l : List Nat) (w : World) (e : Ending) (w' : World) : Prop := e = .returned (.tuple #[.int .u64 (tN l), .int .i64 (tK l), .int .i64 (tE l)]) ∧ Below w.heap.size w w'

theorem RTakeRet.none_ {l : List Nat} {w w' : World} (h : V.take l = none) (hb : Below w.heap.size w w') : RTakeRet l w (.returned (.tuple #[.int .u64 0, .int .i64 0, .int .i64 31])) w' := by
  obtain ⟨a, b, c⟩ := T_none h
  exact ⟨by rw [a, b, c]; rfl, hb⟩
theorem RTakeRet.some_ {l : List Nat} {w w' : World} {n k : Nat} {N K : Int} (h : V.take l = some (n, k)) (hN : N = n) (hK : K = k) (hb : Below w.heap.size w w') : RTakeRet l w (.returned (.tuple #[.int .u64 N, .int .i64 K, .int .i64 0])) w' := by
  obtain ⟨a, b, c⟩ := T_some h
  exact ⟨by rw [a, b, c, hN, hK], hb⟩

section
variable {l : List Nat} {k x acc : Nat} (hx : l[k]? = some x) (ht : V.refFrom l (l.drop k) k acc = V.take l) (hk : k < 10)
include hx ht hk
theorem rstep_last (h : x < 128) : V.take l = if V.put ((acc + x % 128 * 128 ^ k) % 18446744073709551616) = l.take (k + 1) then some ((acc + x % 128 * 128 ^ k) % 18446744073709551616, k + 1) else none := by
  rw [← ht, drop_at hx, V.refFrom, if_neg (by omega), if_pos h]
theorem rstep_on (h : ¬ x < 128) : V.refFrom l (l.drop (k + 1)) (k + 1) ((acc + x % 128 * 128 ^ k) % 18446744073709551616) = V.take l := by
  rw [← ht, drop_at hx, V.refFrom, if_neg (by omega), if_neg h]
end
theorem rstep_end {l : List Nat} {k acc n : Nat} (hl : l.length = n) (ht : V.refFrom l (l.drop k) k acc = V.take l) (h : ¬ (k < n ∧ k < 10)) (hk : k ≤ n) : V.take l = none := by
  rw [← ht]
  by_cases h10 : 10 ≤ k
  · cases l.drop k with
    | nil => rfl
    | cons y r => rw [V.refFrom, if_pos h10]
  · have : k = n := by omega
    rw [List.drop_eq_nil_of_le (by omega)]
    rfl

set_option maxRecDepth 100000 in
set_option maxHeartbeats 2000000 in
theorem rtake_any {w : World} {B : Nat} {A : Option Addr} {n c : Nat} {l : List Nat} (h : Rd w B 1 A n (by8 l)) (hl : ∀ x ∈ l, x < 256) (hm : n ≤ maxLen) (hcap : n ≤ c) (hBw : B ≤ w.heap.size) :
    Calls Try.prog 25 #[.slice A n c] w (RTakeRet l w) := by
  have hlen : l.length = n := by simpa [by8_len] using h.len1
  have HL := Lib.hid hlen
  clear hlen
  have HB := Lib.hid hl
  clear hl
  have H := Lib.hid h
  clear h
  unfold maxLen at hm
  go_enter Try.func25, Try.ntmps25
  go_wp2
  go_loop [5, 6] (fun a i => RefRel l n a i) (fun _ i => 11 - (intOf i).toNat)
  case atStart => exact ⟨0, 0, rfl, rfl, by omega, by omega, by rw [List.drop_zero]; exact V.ref_take l HB.out⟩
  case round =>
    obtain ⟨k, acc, rfl, rfl, hkn, hk10, ht⟩ := hrel
    have HT := Lib.hid ht
    clear ht
    by_cases h1 : k < n
    · by_cases h2 : k < 10
      · obtain ⟨b, off, u, rfl, _, hu, hc⟩ := H.out.cell h1
        obtain ⟨x, hx⟩ : ∃ x : Nat, l[k]? = some x := ⟨l[k]'(by rw [HL.out]; exact h1), List.getElem?_eq_getElem _⟩
        have hu' : u = .int .u8 (x : Int) := by simpa [by8, hx] using hu.symm
        subst hu'
        have hx256 : x < 256 := HB.out x (List.mem_of_getElem? hx)
        have HX := Lib.hid hx
        clear hx hu
        have f2 := add_shift acc x k
        obtain ⟨s, hs⟩ : ∃ s : Nat, s = (acc + x % 128 * 128 ^ k) % 18446744073709551616 := ⟨_, rfl⟩
        rw [← hs] at f2
        have hs64 : s < 18446744073709551616 := by rw [hs]; exact Nat.mod_lt _ (by omega)
        have HS := Lib.hid hs
        clear hs
        have C := Lib.hid (fun w => rput_any s w hs64)
        clear hs64
        by_cases hx128 : x < 128
        · have hr := H.out.take1 (k := k + 1) (by omega)
          have ht : (by8 l).take (k + 1) = by8 (l.take (k + 1)) := by simp [by8, List.map_take]
          rw [ht] at hr
          clear ht
          have hr' : Rd w.drew B 1 (some ⟨b, off, none⟩) (k + 1) (by8 (l.take (k + 1))) := hr
          have k1 := run_str hr' c
          have HR := Lib.hid hr'
          clear hr hr'
          have q1 : IntKind.i64.wrap ((k : Int) + 1) = (k : Int) + 1 := IntWalk.i64_in _ (by omega)
          have q2 : (0 : Int) ≤ (k : Int) + 1 := by omega
          have q3 : ((k : Int) + 1).toNat = k + 1 := by omega
          have hbq := str8_beq (V.put_byte s) (l' := l.take (k + 1)) (fun y hy => HB.out y (List.mem_of_mem_take hy))
          have R := Lib.hid (rstep_last HX.out HT.out h2 hx128)
          by_cases he : V.put s = l.take (k + 1)
          · have g : ((str8 (V.put s)).toList == (str8 (l.take (k + 1))).toList) = true := by rw [hbq]; simpa using he
            have R' : Hid (V.take l = some (s, k + 1)) := Lib.hid (by have := R.out; rw [← HS.out, if_pos he] at this; exact this)
            clear hbq he
            go_wp2
            go_region_with (go_at_call 18; refine (C.out _).mono ?_; rintro e w2 ⟨A2, c2, rfl, hown2, hB2⟩; have k2 := run_str (Rd.of_own hown2) c2; have k3 := run_str (HR.out.below (hB2.mono hBw)) c)
            all_goals
              go_wp2
              go_ret3
              exact RTakeRet.some_ R'.out rfl (by omega) ((Below.refl _ w).drew.trans hB2)
          · have g : ((str8 (V.put s)).toList == (str8 (l.take (k + 1))).toList) = false := by rw [hbq]; simpa using he
            have R' : Hid (V.take l = none) := Lib.hid (by have := R.out; rw [← HS.out, if_neg he] at this; exact this)
            clear hbq he
            go_wp2
            go_region_with (go_at_call 18; refine (C.out _).mono ?_; rintro e w2 ⟨A2, c2, rfl, hown2, hB2⟩; have k2 := run_str (Rd.of_own hown2) c2; have k3 := run_str (HR.out.below (hB2.mono hBw)) c)
            all_goals
              go_wp2
              go_ret3
              exact RTakeRet.none_ R'.out ((Below.refl _ w).drew.trans hB2)
        · have R := Lib.hid (rstep_on HX.out HT.out h2 hx128)
          go_wp2
          go_round
          case rel => exact ⟨k + 1, s, by go_num, rfl, by omega, by omega, by rw [HS.out]; exact R.out⟩
          case measure => simp [intOf]; omega
      · have R := Lib.hid (rstep_end HL.out HT.out (by omega) hkn)
        go_wp2
        go_ret3
        exact RTakeRet.none_ R.out (Below.refl _ _)
    · have R := Lib.hid (rstep_end HL.out HT.out (by omega) hkn)
      go_wp2
      go_ret3
      exact RTakeRet.none_ R.out (Below.refl _ _)
end Go.Proofs.Ytokpcpopibpebaa
