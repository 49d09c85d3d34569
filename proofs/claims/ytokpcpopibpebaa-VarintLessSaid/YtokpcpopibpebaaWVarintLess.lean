/-
  THE WALK OF VarintLess.
-/
import Derived.Test.YtokpcpopibpebaaWVarintBack
namespace Go.Proofs.Ytokpcpopibpebaa
open Go Go.RowKit

theorem by_app_lt {n m : Nat} : ∀ x ∈ V.put n ++ V.put m, x < 256 := by
  intro x hx
  rcases List.mem_append.1 hx with h | h
  · exact V.put_byte n x h
  · exact V.put_byte m x h

set_option maxRecDepth 100000 in
set_option maxHeartbeats 1000000 in
theorem varintLess.walk (W : World) (n : Nat) (hn : n < 18446744073709551616) (m : Nat) (hm : m < 18446744073709551616) :
    Calls Try.prog 9 #[.int .u64 n, .int .u64 m] W fun e w' => e = .returned (.bool true) ∧ Below W.heap.size W w' := by
  have C1 := Lib.hid (fun w => put_any n w hn)
  have C2 := Lib.hid (fun w => put_any m w hm)
  have p10 := V.put_length_ten hn
  have q10 := V.put_length_ten hm
  have p1 := V.put_length_pos n
  have q1 := V.put_length_pos m
  have HT := Lib.hid (V.take_put n (V.put m) hn)
  have HT2 := Lib.hid (V.take_put m [] hm)
  have hle : n ≤ m → (V.put n).length ≤ (V.put m).length := V.put_length_mono m n
  have HLE := Lib.hid hle
  clear hn hm hle
  go_enter Try.func9, Try.ntmps9
  go_wp2_with fail
  refine (C1.out _).mono ?_
  rintro e w1 ⟨A1, c1, rfl, hown1, hB1⟩
  have R1 := Lib.hid (Rd.of_own hown1)
  clear hown1
  go_wp2_with fail
  refine (C2.out _).mono ?_
  rintro e w2 ⟨A2, c2, rfl, hown2, hB2⟩
  have R2 := Lib.hid (Rd.of_own hown2)
  have R1' := Lib.hid (R1.out.below hB2)
  clear hown2 R1
  have HB2 := Lib.hid (hB1.trans (hB2.mono hB1.size))
  have hs := hB2.size
  clear hB1 hB2
  go_wp2_with (at_builtin; refine wpList_app _ rfl (.tmp 18) (.tmp 19) 24 rfl w2 w2.heap.size 5 (.int .u8 0) 1 1 Try.underlying24 info5 rfl (by decide) _ 0 [] rfl (own_empty w2 _ 5 1 (Nat.le_refl _)) w1.heap.size A1 _ c1 (by8 (V.put n)) rfl (R1'.out.alloc hs _) (by8_one _) (by unfold maxLen; omega) (by omega) ((Below.refl _ _).alloc (Nat.le_refl _) _) (Nat.le_refl _) ?_)
  intro A3 c3 w3 hown3 hg3 hB3
  clear hg3
  have RM := Lib.hid (R2.out.below hB3)
  go_wp2_with (at_builtin; refine wpList_app _ rfl (.tmp 20) (.tmp 21) 24 rfl w2 w2.heap.size 5 (.int .u8 0) 1 1 Try.underlying24 info5 rfl (by decide) _ _ _ rfl hown3 w2.heap.size A2 _ c2 (by8 (V.put m)) rfl RM.out (by8_one _) (by unfold maxLen; omega) (by omega) hB3 (Nat.le_refl _) ?_)
  intro A4 c4 w4 hown4 hg4 hB4
  rw [← by8_append] at hown4
  obtain ⟨A', c', hv, hc4, hc4m⟩ := own_slice hown4
  injection hv with hA hn' hc
  subst hA hc
  obtain ⟨g, cap, hv, _, _⟩ := hown4.form (by omega)
  injection hv with hA hn' hc
  subst hA hc
  have R4 := Lib.hid (Rd.of_own hown4)
  have hr5 := R4.out.drop1 (k := (V.put n).length) (c := c4) (by omega) hc4
  rw [if_neg (by omega)] at hr5
  have hdr : (by8 (V.put n ++ V.put m)).drop (V.put n).length = by8 (V.put m) := by simp [by8]
  rw [hdr] at hr5
  simp only [Option.map_some, addr_add, Nat.zero_add, Nat.add_sub_cancel_left] at hr5
  have R5 := Lib.hid hr5
  clear hdr hr5
  have HBB := Lib.hid (HB2.out.trans (hB4.mono HB2.out.size))
  clear hown4 hg4 hown3 hB3 RM R1' R2 HB2 hs hB4
  go_wp2_with fail
  refine (take_any R4.out by_app_lt (by unfold maxLen; omega)).mono ?_
  rintro e w' ⟨rfl, rfl⟩
  obtain ⟨e1, e2, e3⟩ := T_some HT.out
  rw [e1, e2, e3]
  clear e1 e2 e3
  have g0 : ((n : Int) == (n : Int)) = true := by simp
  have g1 : (((V.put n).length : Int) == ((V.put n).length : Int)) = true := by simp
  go_wp2_with fail
  refine (take_any R5.out (V.put_byte m) (by unfold maxLen; omega)).mono ?_
  rintro e w' ⟨rfl, rfl⟩
  have ht2 := HT2.out
  rw [List.append_nil] at ht2
  obtain ⟨e1, e2, e3⟩ := T_some ht2
  rw [e1, e2, e3]
  clear e1 e2 e3 ht2
  go_wp2_with fail
  refine (alive_law W _ HBB.out).mono ?_
  rintro e w5 ⟨rfl, hB5⟩
  have g2 : ((m : Int) == (m : Int)) = true := by simp
  have g3 : (((V.put m).length : Int) == ((V.put m).length : Int)) = true := by simp
  by_cases hnm : m < n
  · go_wp2_with fail
    go_ret
    exact ⟨by simp, hB5⟩
  · have hlen := HLE.out (by omega)
    go_wp2_with fail
    go_ret
    exact ⟨by simp, hB5⟩
end Go.Proofs.Ytokpcpopibpebaa
