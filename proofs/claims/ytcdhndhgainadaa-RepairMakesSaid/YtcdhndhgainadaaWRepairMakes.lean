/-
  THE WALK OF RepairMakes.
-/
import Derived.Test.YtcdhndhgainadaaRepEnd
import Derived.Test.YtcdhndhgainadaaRightF
namespace Go.Proofs.Ytcdhndhgainadaa.repairMakes
open Go Go.RowKit
set_option linter.unusedVariables false
set_option linter.unusedSimpArgs false

set_option maxRecDepth 100000 in
set_option maxHeartbeats 4000000 in
theorem walk (W : World) (v : List Value) (t : RT) (hv : NdR W W.heap.size v t) : Calls Try.prog 8 #[.agg v.toArray] W fun e w' => e = .returned (.bool true) ∧ Below W.heap.size W w' := by
  have hfoot : NdF W (fun b => b < W.heap.size) v t := hv.foot (Nat.le_refl _) fun _ h => h
  have HL := Lib.hid (large25_any (hv.beneath (w' := W.alloc (.cells v.toArray 31)) (blAl _) (by simp)))
  have HV := Lib.hid hv
  have HFT := Lib.hid hfoot
  obtain ⟨n, r, k, AA, an, ac, TA, tn, tc, A, m, c, at_, tx, ks, rfl, hP⟩ := hv.parts
  have HX0 := Lib.hid (BoxN.made W #[.int .i64 n, .int .i64 r, .string k, .slice AA an ac, .slice TA tn tc, .slice A m c] 31)
  have HB0 := Lib.hid (blAl (w := W) (.cells #[.int .i64 n, .int .i64 r, .string k, .slice AA an ac, .slice TA tn tc, .slice A m c] 31))
  clear hv hfoot hP
  obtain ⟨big, hbig⟩ : ∃ b : Bool, decide (300 < rsize t) = b := ⟨_, rfl⟩
  rw [hbig] at HL
  have HBIG := Lib.hid hbig
  clear hbig
  go_enter Try.func8, Try.ntmps8
  go_wp2_with fail
  refine HL.out.mono ?_
  rintro e w1 ⟨rfl, hB1⟩
  have hX1 := HX0.out.below hB1 HX0.out.lt
  have H1 := Lib.hid (HB0.out.trans (hB1.mono HB0.out.size))
  have HX1 := Lib.hid hX1
  cases big
  case true =>
    clear hX1 HL HB0 HX0 hB1
    go_wp2_with fail
    refine (alive26_any _).mono ?_
    rintro e w2 ⟨rfl, hB2⟩
    have H2 := Lib.hid (H1.out.trans (hB2.mono H1.out.size))
    clear hB2
    go_wp2_with fail
    go_ret
    exact ⟨rfl, H2.out⟩
  case false =>
    have hsz : rsize t ≤ 300 := by have := of_decide_eq_false HBIG.out; omega
    have HSZ := Lib.hid hsz
    clear hsz
    have w1c0 : w1.cell? ⟨W.heap.size, 0, none⟩ = some (.int .i64 n) := hX1.cell (j := 0) rfl
    have w1c1 : w1.cell? ⟨W.heap.size, 1, none⟩ = some (.int .i64 r) := hX1.cell (j := 1) rfl
    have w1c2 : w1.cell? ⟨W.heap.size, 2, none⟩ = some (.string k) := hX1.cell (j := 2) rfl
    have w1c3 : w1.cell? ⟨W.heap.size, 3, none⟩ = some (.slice AA an ac) := hX1.cell (j := 3) rfl
    have w1c4 : w1.cell? ⟨W.heap.size, 4, none⟩ = some (.slice TA tn tc) := hX1.cell (j := 4) rfl
    have w1c5 : w1.cell? ⟨W.heap.size, 5, none⟩ = some (.slice A m c) := hX1.cell (j := 5) rfl
    clear hB1 HL HB0 HX0 hX1
    go_wp2_with fail
    refine wp_region_held (S := (fun w' : World => BoxN w' W.heap.size #[.int .i64 n, .int .i64 r, .string k, .slice AA an ac, .slice TA tn tc, .slice A m c] 31)) (by kernel_rfl) ?_
    change wpAnyH _ _ _ _ _ _ _ _ w1.drew
    have HSW : (fun w' : World => BoxN w' W.heap.size #[.int .i64 n, .int .i64 r, .string k, .slice AA an ac, .slice TA tn tc, .slice A m c] 31) w1.drew := HX1.out
    clear w1c0 w1c1 w1c2 w1c3 w1c4 w1c5
    refine held_take (i := 0) (v := .agg #[.int .i64 n, .int .i64 r, .string k, .slice AA an ac, .slice TA tn tc, .slice A m c]) rfl (by kernel_rfl) (by kernel_rfl) (by kernel_rfl) (fun _ _ _ h => h) rfl (fun w' hS => by
      have e0 := BoxN.cell (j := 0) hS rfl
      have e1 := BoxN.cell (j := 1) hS rfl
      have e2 := BoxN.cell (j := 2) hS rfl
      have e3 := BoxN.cell (j := 3) hS rfl
      have e4 := BoxN.cell (j := 4) hS rfl
      have e5 := BoxN.cell (j := 5) hS rfl
      clear hS
      go_simp) HSW ?_
    simp only [Act.put, List.setIfInBounds_toArray, List.set_cons_succ, List.set_cons_zero, List.getElem_toArray, List.getElem_cons_succ, List.getElem_cons_zero]
    refine held_take (i := 2) (v := .agg #[.int .i64 n, .int .i64 r, .string k, .slice AA an ac, .slice TA tn tc, .slice A m c]) rfl (by kernel_rfl) (by kernel_rfl) (by kernel_rfl) (fun _ _ _ h => h) rfl (fun w' hS => by
      have e0 := BoxN.cell (j := 0) hS rfl
      have e1 := BoxN.cell (j := 1) hS rfl
      have e2 := BoxN.cell (j := 2) hS rfl
      have e3 := BoxN.cell (j := 3) hS rfl
      have e4 := BoxN.cell (j := 4) hS rfl
      have e5 := BoxN.cell (j := 5) hS rfl
      clear hS
      go_simp) HSW ?_
    simp only [Act.put, List.setIfInBounds_toArray, List.set_cons_succ, List.set_cons_zero, List.getElem_toArray, List.getElem_cons_succ, List.getElem_cons_zero]
    have h1d : Below W.heap.size W w1.drew := H1.out.trans (Below.refl _ _).drew
    refine held_call (i := 1) (by kernel_rfl) rfl rfl rfl (enters_of Try.func28 (by kernel_rfl) rfl) [.agg #[.int .i64 n, .int .i64 r, .string k, .slice AA an ac, .slice TA tn tc, .slice A m c]] rfl (repair28_any t (by have := HSZ.out; omega) w1.drew (fun b => b < W.heap.size) _ (fun b h => Nat.lt_of_lt_of_le h h1d.size) (HFT.out.stay (.beneath h1d (fun b _ h => h) fun _ _ h => h))) ?_
    rintro e w2 ⟨v2, rfl, hv2, hB2⟩
    have h2 : Below W.heap.size W w2 := h1d.trans (hB2.mono h1d.size)
    have hX2 := BoxN.below HSW hB2 (BoxN.lt HSW)
    have HSW2 : (fun w' : World => BoxN w' W.heap.size #[.int .i64 n, .int .i64 r, .string k, .slice AA an ac, .slice TA tn tc, .slice A m c] 31) w2 := hX2
    refine ⟨_, rfl, HSW2, ?_⟩
    simp only [Act.put, List.setIfInBounds_toArray, List.set_cons_succ, List.set_cons_zero, List.getElem_toArray, List.getElem_cons_succ, List.getElem_cons_zero]
    refine held_call (i := 3) (by kernel_rfl) rfl rfl rfl (enters_of Try.func29 (by kernel_rfl) rfl) [.agg #[.int .i64 n, .int .i64 r, .string k, .slice AA an ac, .slice TA tn tc, .slice A m c]] rfl (repair29_any t (by have := HSZ.out; omega) w2 (fun b => b < W.heap.size) _ (fun b h => Nat.lt_of_lt_of_le h h2.size) (HFT.out.stay (.beneath h2 (fun b _ h => h) fun _ _ h => h))) ?_
    rintro e w3 ⟨v3, rfl, hv3, hB3⟩
    have h3 : Below W.heap.size W w3 := h2.trans (hB3.mono h2.size)
    have hX3 := hX2.below hB3 hX2.lt
    have HSW3 : (fun w' : World => BoxN w' W.heap.size #[.int .i64 n, .int .i64 r, .string k, .slice AA an ac, .slice TA tn tc, .slice A m c] 31) w3 := hX3
    refine ⟨_, rfl, HSW3, ?_⟩
    simp only [Act.put, List.setIfInBounds_toArray, List.set_cons_succ, List.set_cons_zero, List.getElem_toArray, List.getElem_cons_succ, List.getElem_cons_zero]
    have q2 : NdR w3 w3.heap.size v2.toList (repairT t) := hv2.bare.beneath hB3 hB3.size
    have q3 : NdR w3 w3.heap.size v3.toList (repairT t) := hv3.bare
    refine held_call (i := 4) (by kernel_rfl) rfl rfl rfl (enters_of Try.func27 (by kernel_rfl) rfl) [.agg v2, .agg v3] rfl (same19_any (rsize (repairT t) + 1) _ (Nat.lt_succ_self _) _ _ _ _ q2 q3) ?_
    rintro e w4 ⟨bb, rfl, hbb, hB4⟩
    obtain rfl := hbb rfl
    have h4 : Below W.heap.size W w4 := h3.trans (hB4.mono h3.size)
    have hX4 := hX3.below hB4 hX3.lt
    have HSW4 : (fun w' : World => BoxN w' W.heap.size #[.int .i64 n, .int .i64 r, .string k, .slice AA an ac, .slice TA tn tc, .slice A m c] 31) w4 := hX4
    refine ⟨_, rfl, HSW4, ?_⟩
    simp only [Act.put, List.setIfInBounds_toArray, List.set_cons_succ, List.set_cons_zero, List.getElem_toArray, List.getElem_cons_succ, List.getElem_cons_zero]
    refine held_take (i := 5) (v := .bool true) rfl (by kernel_rfl) (by kernel_rfl) (by kernel_rfl) (fun _ _ _ h => h) rfl (fun w' hS => by
      have e0 := BoxN.cell (j := 0) hS rfl
      have e1 := BoxN.cell (j := 1) hS rfl
      have e2 := BoxN.cell (j := 2) hS rfl
      have e3 := BoxN.cell (j := 3) hS rfl
      have e4 := BoxN.cell (j := 4) hS rfl
      have e5 := BoxN.cell (j := 5) hS rfl
      clear hS
      go_simp) HSW4 ?_
    simp only [Act.put, List.setIfInBounds_toArray, List.set_cons_succ, List.set_cons_zero, List.getElem_toArray, List.getElem_cons_succ, List.getElem_cons_zero]
    refine wpAnyH_done (by kernel_rfl) ?_ _
    have H4 := Lib.hid h4
    clear HSW HSW2 HSW3 HSW4 h1d h2 h3 h4 hX2 hX3 hX4 hB2 hB3 hB4 hv2 hv3 q2 q3 hbb
    go_wp2_with fail
    refine (alive26_any _).mono ?_
    rintro e w5 ⟨rfl, hB5⟩
    have H5 := Lib.hid (H4.out.trans (hB5.mono H4.out.size))
    clear hB5
    go_wp2_with fail
    go_ret
    exact ⟨rfl, H5.out⟩
end Go.Proofs.Ytcdhndhgainadaa.repairMakes
