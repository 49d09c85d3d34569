/-
  THE WALK OF VarintOnly.
-/
import Derived.Test.YtokpcpopibpebaaWVarintBack
import Derived.Deep.RegionWith
namespace Go.Proofs.Ytokpcpopibpebaa
open Go Go.RowKit

set_option maxRecDepth 100000 in
set_option maxHeartbeats 1000000 in
theorem varintOnly.walk (W : World) (A : Option Addr) (len c : Nat) (l : List Nat) (k : Bytes W A len c l) (cut : Int) (lo : -9223372036854775808 ≤ cut) (hi : cut < 9223372036854775808) :
    Calls Try.prog 8 #[.slice A len c, .int .i64 cut] W fun e w' => e = .returned (.bool true) ∧ Below W.heap.size W w' := by
  have K := Lib.hid k
  have hr := k.reach
  have hcap := k.cap
  have hlen : l.length = len := by simpa [by8_len] using k.rd.len1
  have HL := Lib.hid hlen
  clear k hlen
  cases ht : V.take l with
  | none =>
    obtain ⟨e1, e2, e3⟩ := T_none ht
    have E1 := Lib.hid e1
    have E2 := Lib.hid e2
    have E3 := Lib.hid e3
    clear e1 e2 e3 lo hi ht
    go_enter Try.func8, Try.ntmps8
    go_wp2_with fail
    refine (take_any K.out.rd K.out.lt (by unfold maxLen; omega)).mono ?_
    rintro e w' ⟨rfl, rfl⟩
    rw [E1.out, E2.out, E3.out]
    go_wp2_with fail
    refine (alive_any _).mono ?_
    rintro e w4 ⟨rfl, hB4⟩
    go_wp2_with fail
    go_ret
    exact ⟨by simp, hB4⟩
  | some r =>
    obtain ⟨n, m⟩ := r
    obtain ⟨rest, hl, hm, hn⟩ := V.take_some K.out.lt ht
    have hm1 : 1 ≤ m := by rw [hm]; exact V.put_length_pos n
    have hmlen : m ≤ len := by rw [← HL.out, hl, hm]; simp
    have htk : l.take m = V.put n := by rw [hl, hm]; simp
    obtain ⟨e1, e2, e3⟩ := T_some ht
    have E1 := Lib.hid e1
    have E2 := Lib.hid e2
    have E3 := Lib.hid e3
    have HT := Lib.hid ht
    have HM := Lib.hid hm
    have HK := Lib.hid htk
    have C1 := Lib.hid (fun w => put_any n w hn)
    have hd : decide (V.put n = V.put n) = true := by simp
    have hx : ∃ D : Nat, ((cut < 0 ∧ -(cut + 1) = (D : Int)) ∨ (¬ cut < 0 ∧ cut = (D : Int))) := by
      by_cases h : cut < 0
      · exact ⟨(-(cut + 1)).toNat, .inl ⟨h, by omega⟩⟩
      · exact ⟨cut.toNat, .inr ⟨h, by omega⟩⟩
    obtain ⟨D, hD⟩ := hx
    have hs := V.take_short (j := D % m) K.out.lt ht (Nat.mod_lt _ (by omega))
    obtain ⟨_, _, f3⟩ := T_none hs
    have F3 := Lib.hid f3
    have hDm : D % m < m := Nat.mod_lt _ (by omega)
    have hr1 := K.out.rd.take1 (k := m) hmlen
    have ht1 : (by8 l).take m = by8 (V.put n) := by rw [← htk]; simp [by8, List.map_take]
    rw [ht1] at hr1
    have hr2 := K.out.rd.take1 (k := D % m) (by omega)
    have ht2 : (by8 l).take (D % m) = by8 (l.take (D % m)) := by simp [by8, List.map_take]
    rw [ht2] at hr2
    have hr1' : Rd W.drew W.drew.heap.size 1 A m (by8 (V.put n)) := hr1
    have R1 := Lib.hid hr1'
    have hr2' : Rd W.drew W.drew.heap.size 1 A (D % m) (by8 (l.take (D % m))) := hr2
    have R2 := Lib.hid hr2'
    have hm2 : (m : Int) ≤ 140737488351232 := by omega
    clear hn ht hl hm htk e1 e2 e3 f3 hs hr1 hr1' hr2 hr2' ht1 ht2
    rcases hD with ⟨hneg, hD⟩ | ⟨hneg, hD⟩
    · have HD := Lib.hid hD
      clear hD
      go_enter Try.func8, Try.ntmps8
      go_wp2_with fail
      refine (take_any K.out.rd K.out.lt (by unfold maxLen; omega)).mono ?_
      rintro e w' ⟨rfl, rfl⟩
      rw [E1.out, E2.out, E3.out]
      go_wp2_with fail
      rw [HD.out]
      go_region_with (first
        | (go_at_call 17; refine (C1.out _).mono ?_; rintro e w1 ⟨A1, c1, rfl, hown1, hB1⟩; have R3 := Lib.hid (Rd.of_own hown1); have R4 := Lib.hid (R1.out.below hB1); have HB1 := Lib.hid hB1; clear hown1 hB1)
        | (go_at_call 16; refine (same_any R3.out R4.out (V.put_byte n) (V.put_byte n)).mono ?_; rintro e w' ⟨rfl, rfl⟩))
      all_goals
        go_wp2_with fail
        refine (take_any (R2.out.below HB1.out) (fun x hx => K.out.lt x (List.mem_of_mem_take hx)) (by unfold maxLen; omega)).mono ?_
        rintro e w' ⟨rfl, rfl⟩
        rw [F3.out]
        go_wp2_with fail
        refine (alive_law W _ ((Below.refl _ W).drew.trans HB1.out)).mono ?_
        rintro e w5 ⟨rfl, hB5⟩
        go_wp2_with fail
        go_ret
        exact ⟨by simp, hB5⟩
    · subst hD
      clear lo hi
      go_enter Try.func8, Try.ntmps8
      go_wp2_with fail
      refine (take_any K.out.rd K.out.lt (by unfold maxLen; omega)).mono ?_
      rintro e w' ⟨rfl, rfl⟩
      rw [E1.out, E2.out, E3.out]
      go_wp2_with fail
      go_region_with (first
        | (go_at_call 17; refine (C1.out _).mono ?_; rintro e w1 ⟨A1, c1, rfl, hown1, hB1⟩; have R3 := Lib.hid (Rd.of_own hown1); have R4 := Lib.hid (R1.out.below hB1); have HB1 := Lib.hid hB1; clear hown1 hB1)
        | (go_at_call 16; refine (same_any R3.out R4.out (V.put_byte n) (V.put_byte n)).mono ?_; rintro e w' ⟨rfl, rfl⟩))
      all_goals
        go_wp2_with fail
        refine (take_any (R2.out.below HB1.out) (fun x hx => K.out.lt x (List.mem_of_mem_take hx)) (by unfold maxLen; omega)).mono ?_
        rintro e w' ⟨rfl, rfl⟩
        rw [F3.out]
        go_wp2_with fail
        refine (alive_law W _ ((Below.refl _ W).drew.trans HB1.out)).mono ?_
        rintro e w5 ⟨rfl, hB5⟩
        go_wp2_with fail
        go_ret
        exact ⟨by simp, hB5⟩
end Go.Proofs.Ytokpcpopibpebaa
