/-
  THE WALK OF RepairSmall.
-/
import Derived.Test.YtcdhndhgainadaaRepEnd
import Derived.Test.YtcdhndhgainadaaRightF
namespace Go.Proofs.Ytcdhndhgainadaa.repairSmall
open Go Go.RowKit
set_option linter.unusedVariables false
set_option linter.unusedSimpArgs false

set_option maxRecDepth 100000 in
set_option maxHeartbeats 4000000 in
theorem walk (W : World) (v : List Value) (t : RT) (hv : NdR W W.heap.size v t) : Calls Try.prog 10 #[.agg v.toArray] W fun e w' => e = .returned (.bool true) ∧ Below W.heap.size W w' := by
  have hfoot : NdF W (fun b => b < W.heap.size) v t := hv.foot (Nat.le_refl _) fun _ h => h
  have HL := Lib.hid (large25_any (hv.beneath (w' := W.alloc (.cells v.toArray 31)) (blAl _) (by simp)))
  have HV := Lib.hid hv
  have HFT := Lib.hid hfoot
  obtain ⟨n, r, k, AA, an, ac, TA, tn, tc, A, m, c, at_, tx, ks, rfl, hP⟩ := hv.parts
  have HX0 := Lib.hid (BoxN.made W #[.int .i64 n, .int .i64 r, .string k, .slice AA an ac, .slice TA tn tc, .slice A m c] 31)
  have HB0 := Lib.hid (blAl (w := W) (.cells #[.int .i64 n, .int .i64 r, .string k, .slice AA an ac, .slice TA tn tc, .slice A m c] 31))
  clear hv hfoot hP
  obtain ⟨big, hbig⟩ : ∃ b : Bool, decide (300 < rsize t) = b := ⟨_, rfl⟩
  rw [hbig] at HL
  have HBIG := Lib.hid hbig
  clear hbig
  go_enter Try.func10, Try.ntmps10
  go_wp2_with fail
  refine HL.out.mono ?_
  rintro e w1 ⟨rfl, hB1⟩
  have hX1 := HX0.out.below hB1 HX0.out.lt
  have H1 := Lib.hid (HB0.out.trans (hB1.mono HB0.out.size))
  have HX1 := Lib.hid hX1
  cases big
  case true =>
    clear hX1 HL HB0 HX0 hB1
    go_wp2_with fail
    refine (alive26_any _).mono ?_
    rintro e w2 ⟨rfl, hB2⟩
    have H2 := Lib.hid (H1.out.trans (hB2.mono H1.out.size))
    clear hB2
    go_wp2_with fail
    go_ret
    exact ⟨rfl, H2.out⟩
  case false =>
    have hsz : rsize t ≤ 300 := by have := of_decide_eq_false HBIG.out; omega
    have HSZ := Lib.hid hsz
    clear hsz
    have w1c0 : w1.cell? ⟨W.heap.size, 0, none⟩ = some (.int .i64 n) := hX1.cell (j := 0) rfl
    have w1c1 : w1.cell? ⟨W.heap.size, 1, none⟩ = some (.int .i64 r) := hX1.cell (j := 1) rfl
    have w1c2 : w1.cell? ⟨W.heap.size, 2, none⟩ = some (.string k) := hX1.cell (j := 2) rfl
    have w1c3 : w1.cell? ⟨W.heap.size, 3, none⟩ = some (.slice AA an ac) := hX1.cell (j := 3) rfl
    have w1c4 : w1.cell? ⟨W.heap.size, 4, none⟩ = some (.slice TA tn tc) := hX1.cell (j := 4) rfl
    have w1c5 : w1.cell? ⟨W.heap.size, 5, none⟩ = some (.slice A m c) := hX1.cell (j := 5) rfl
    have HC := Lib.hid (count_r (HV.out.beneath H1.out H1.out.size) 300 (by decide) (by decide))
    clear hB1 HL HB0 HX0 hX1
    go_wp2_with fail
    refine HC.out.mono ?_
    rintro e w2 ⟨cc, rfl, hc1, hc2, hc3, hc4, hB2⟩
    obtain rfl : cc = (rsize t : Int) := hc4 (by have := HSZ.out; omega)
    have H2 := Lib.hid (H1.out.trans (hB2.mono H1.out.size))
    have HX2 := Lib.hid (HX1.out.below hB2 HX1.out.lt)
    clear hB2 HC HX1 H1 hc1 hc2 hc3 hc4 w1c0 w1c1 w1c2 w1c3 w1c4 w1c5
    go_wp2_with fail
    refine (alive26_any _).mono ?_
    rintro e w3 ⟨rfl, hB3⟩
    have hX3 := HX2.out.below hB3 HX2.out.lt
    have H3 := Lib.hid (H2.out.trans (hB3.mono H2.out.size))
    have w3c0 : w3.cell? ⟨W.heap.size, 0, none⟩ = some (.int .i64 n) := hX3.cell (j := 0) rfl
    have w3c1 : w3.cell? ⟨W.heap.size, 1, none⟩ = some (.int .i64 r) := hX3.cell (j := 1) rfl
    have w3c2 : w3.cell? ⟨W.heap.size, 2, none⟩ = some (.string k) := hX3.cell (j := 2) rfl
    have w3c3 : w3.cell? ⟨W.heap.size, 3, none⟩ = some (.slice AA an ac) := hX3.cell (j := 3) rfl
    have w3c4 : w3.cell? ⟨W.heap.size, 4, none⟩ = some (.slice TA tn tc) := hX3.cell (j := 4) rfl
    have w3c5 : w3.cell? ⟨W.heap.size, 5, none⟩ = some (.slice A m c) := hX3.cell (j := 5) rfl
    have HR := Lib.hid (repair28_any t (by have := HSZ.out; omega) w3 (fun b => b < W.heap.size) _ (fun b h => Nat.lt_of_lt_of_le h H3.out.size) (HFT.out.stay (.beneath H3.out (fun b _ h => h) fun _ _ h => h)))
    clear hB3 hX3 HX2 H2
    go_wp2_with fail
    refine HR.out.mono ?_
    rintro e w4 ⟨v4, rfl, hv4, hB4⟩
    obtain ⟨K, hK⟩ : ∃ K : Nat, rsize t = K := ⟨_, rfl⟩
    have hK3 : K ≤ 300 := by rw [← hK]; exact HSZ.out
    have hs := repair_size t
    rw [hK] at hs
    have hk1 : IntKind.i64.wrap (6 * (K : Int)) = 6 * (K : Int) := IntWalk.i64_in _ (by omega)
    have hk2 : IntKind.i64.wrap (6 * (K : Int) + 10) = 6 * (K : Int) + 10 := IntWalk.i64_in _ (by omega)
    have hk3 : IntKind.i64.wrap (5 * (K : Int)) = 5 * (K : Int) := IntWalk.i64_in _ (by omega)
    have hk4 : IntKind.i64.wrap (5 * (K : Int) + 4) = 5 * (K : Int) + 4 := IntWalk.i64_in _ (by omega)
    have H4 := Lib.hid (H3.out.trans (hB4.mono H3.out.size))
    have HC := Lib.hid (count_r hv4.bare (6 * (K : Int) + 10) (by omega) (by omega))
    have HS2 := Lib.hid hs
    rw [hK]
    clear hv4 hB4 HR hs w3c0 w3c1 w3c2 w3c3 w3c4 w3c5
    go_wp2_with fail
    refine HC.out.mono ?_
    rintro e w5 ⟨c5, rfl, h1, h2, h3, h4, hB5⟩
    have H5 := Lib.hid (H4.out.trans (hB5.mono H4.out.size))
    have hle : c5 ≤ 5 * (K : Int) + 4 := by
      have e1 := h4 (by have := HS2.out; omega)
      have := HS2.out
      omega
    have hg : decide (c5 ≤ 5 * (K : Int) + 4) = true := decide_eq_true hle
    clear hB5 HC h1 h2 h3 h4
    go_wp2_with fail
    go_ret
    exact ⟨rfl, H5.out⟩
end Go.Proofs.Ytcdhndhgainadaa.repairSmall
