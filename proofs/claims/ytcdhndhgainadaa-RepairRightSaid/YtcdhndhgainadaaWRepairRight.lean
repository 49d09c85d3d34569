/-
  THE WALK OF RepairRight.
-/
import Derived.Test.YtcdhndhgainadaaRepEnd
import Derived.Test.YtcdhndhgainadaaRightF
namespace Go.Proofs.Ytcdhndhgainadaa.repairRight
open Go Go.RowKit
set_option linter.unusedVariables false
set_option linter.unusedSimpArgs false

set_option maxRecDepth 100000 in
set_option maxHeartbeats 4000000 in
theorem walk (W : World) (v : List Value) (t : RT) (hv : NdR W W.heap.size v t) : Calls Try.prog 12 #[.agg v.toArray] W fun e w' => e = .returned (.bool true) ∧ Below W.heap.size W w' := by
  have hfoot : NdF W (fun b => b < W.heap.size) v t := hv.foot (Nat.le_refl _) fun _ h => h
  have HL := Lib.hid (large25_any (hv.beneath (w' := W.alloc (.cells v.toArray 31)) (blAl _) (by simp)))
  have HV := Lib.hid hv
  have HFT := Lib.hid hfoot
  obtain ⟨n, r, k, AA, an, ac, TA, tn, tc, A, m, c, at_, tx, ks, rfl, hP⟩ := hv.parts
  have HX0 := Lib.hid (BoxN.made W #[.int .i64 n, .int .i64 r, .string k, .slice AA an ac, .slice TA tn tc, .slice A m c] 31)
  have HB0 := Lib.hid (blAl (w := W) (.cells #[.int .i64 n, .int .i64 r, .string k, .slice AA an ac, .slice TA tn tc, .slice A m c] 31))
  clear hv hfoot hP
  obtain ⟨big, hbig⟩ : ∃ b : Bool, decide (300 < rsize t) = b := ⟨_, rfl⟩
  rw [hbig] at HL
  have HBIG := Lib.hid hbig
  clear hbig
  go_enter Try.func12, Try.ntmps12
  go_wp2_with fail
  refine HL.out.mono ?_
  rintro e w1 ⟨rfl, hB1⟩
  have hX1 := HX0.out.below hB1 HX0.out.lt
  have H1 := Lib.hid (HB0.out.trans (hB1.mono HB0.out.size))
  have HX1 := Lib.hid hX1
  have w1c0 : w1.cell? ⟨W.heap.size, 0, none⟩ = some (.int .i64 n) := hX1.cell (j := 0) rfl
  have w1c1 : w1.cell? ⟨W.heap.size, 1, none⟩ = some (.int .i64 r) := hX1.cell (j := 1) rfl
  have w1c2 : w1.cell? ⟨W.heap.size, 2, none⟩ = some (.string k) := hX1.cell (j := 2) rfl
  have w1c3 : w1.cell? ⟨W.heap.size, 3, none⟩ = some (.slice AA an ac) := hX1.cell (j := 3) rfl
  have w1c4 : w1.cell? ⟨W.heap.size, 4, none⟩ = some (.slice TA tn tc) := hX1.cell (j := 4) rfl
  have w1c5 : w1.cell? ⟨W.heap.size, 5, none⟩ = some (.slice A m c) := hX1.cell (j := 5) rfl
  clear hB1 HL HB0 HX0 hX1
  go_wp2_with fail
  refine (alive26_any _).mono ?_
  rintro e w2 ⟨rfl, hB2⟩
  have H2 := Lib.hid (H1.out.trans (hB2.mono H1.out.size))
  have hX2 := HX1.out.below hB2 HX1.out.lt
  have w2c0 : w2.cell? ⟨W.heap.size, 0, none⟩ = some (.int .i64 n) := hX2.cell (j := 0) rfl
  have w2c1 : w2.cell? ⟨W.heap.size, 1, none⟩ = some (.int .i64 r) := hX2.cell (j := 1) rfl
  have w2c2 : w2.cell? ⟨W.heap.size, 2, none⟩ = some (.string k) := hX2.cell (j := 2) rfl
  have w2c3 : w2.cell? ⟨W.heap.size, 3, none⟩ = some (.slice AA an ac) := hX2.cell (j := 3) rfl
  have w2c4 : w2.cell? ⟨W.heap.size, 4, none⟩ = some (.slice TA tn tc) := hX2.cell (j := 4) rfl
  have w2c5 : w2.cell? ⟨W.heap.size, 5, none⟩ = some (.slice A m c) := hX2.cell (j := 5) rfl
  clear hB2 hX2 HX1 w1c0 w1c1 w1c2 w1c3 w1c4 w1c5
  cases big
  case true =>
    go_wp2_with fail
    go_ret
    exact ⟨rfl, H2.out⟩
  case false =>
    have hsz : rsize t ≤ 300 := by have := of_decide_eq_false HBIG.out; omega
    have HC := Lib.hid (repair28_any t (by omega) w2 (fun b => b < W.heap.size) _ (fun b h => Nat.lt_of_lt_of_le h H2.out.size) (HFT.out.stay (.beneath H2.out (fun b _ h => h) fun _ _ h => h)))
    clear hsz
    go_wp2_with fail
    refine HC.out.mono ?_
    rintro e w3 ⟨v3, rfl, hv3, hB3⟩
    have H3 := Lib.hid (H2.out.trans (hB3.mono H2.out.size))
    have HR := Lib.hid (gright_any hv3.bare.nd (Nat.le_refl _))
    rw [repair_right] at HR
    clear hv3 hB3 HC
    go_wp2_with fail
    refine HR.out.mono ?_
    rintro e w4 ⟨rfl, hB4⟩
    have H4 := Lib.hid (H3.out.trans (hB4.mono H3.out.size))
    clear hB4
    go_wp2_with fail
    go_ret
    exact ⟨rfl, H4.out⟩
end Go.Proofs.Ytcdhndhgainadaa.repairRight
