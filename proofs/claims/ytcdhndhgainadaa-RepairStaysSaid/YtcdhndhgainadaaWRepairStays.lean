/-
  THE WALK OF RepairStays.
-/
import Derived.Test.YtcdhndhgainadaaRepEnd
import Derived.Test.YtcdhndhgainadaaRightF
namespace Go.Proofs.Ytcdhndhgainadaa.repairStays
open Go Go.RowKit
set_option linter.unusedVariables false
set_option linter.unusedSimpArgs false

set_option maxRecDepth 100000 in
set_option maxHeartbeats 4000000 in
theorem walk (W : World) (v : List Value) (t : RT) (hv : NdR W W.heap.size v t) : Calls Try.prog 13 #[.agg v.toArray] W fun e w' => e = .returned (.bool true) ∧ Below W.heap.size W w' := by
  have hfoot : NdF W (fun b => b < W.heap.size) v t := hv.foot (Nat.le_refl _) fun _ h => h
  have HL := Lib.hid (large25_any (hv.beneath (w' := W.alloc (.cells v.toArray 31)) (blAl _) (by simp)))
  have HV := Lib.hid hv
  have HFT := Lib.hid hfoot
  obtain ⟨n, r, k, AA, an, ac, TA, tn, tc, A, m, c, at_, tx, ks, rfl, hP⟩ := hv.parts
  have HX0 := Lib.hid (BoxN.made W #[.int .i64 n, .int .i64 r, .string k, .slice AA an ac, .slice TA tn tc, .slice A m c] 31)
  have HB0 := Lib.hid (blAl (w := W) (.cells #[.int .i64 n, .int .i64 r, .string k, .slice AA an ac, .slice TA tn tc, .slice A m c] 31))
  clear hv hfoot hP
  obtain ⟨big, hbig⟩ : ∃ b : Bool, decide (300 < rsize t) = b := ⟨_, rfl⟩
  rw [hbig] at HL
  have HBIG := Lib.hid hbig
  clear hbig
  go_enter Try.func13, Try.ntmps13
  go_wp2_with fail
  refine HL.out.mono ?_
  rintro e w1 ⟨rfl, hB1⟩
  have hX1 := HX0.out.below hB1 HX0.out.lt
  have H1 := Lib.hid (HB0.out.trans (hB1.mono HB0.out.size))
  have HX1 := Lib.hid hX1
  cases big
  case true =>
    clear hX1 HL HB0 HX0 hB1
    go_wp2_with fail
    refine (alive26_any _).mono ?_
    rintro e w2 ⟨rfl, hB2⟩
    have H2 := Lib.hid (H1.out.trans (hB2.mono H1.out.size))
    clear hB2
    go_wp2_with fail
    go_ret
    exact ⟨rfl, H2.out⟩
  case false =>
    have hsz : rsize t ≤ 300 := by have := of_decide_eq_false HBIG.out; omega
    have HSZ := Lib.hid hsz
    clear hsz
    have w1c0 : w1.cell? ⟨W.heap.size, 0, none⟩ = some (.int .i64 n) := hX1.cell (j := 0) rfl
    have w1c1 : w1.cell? ⟨W.heap.size, 1, none⟩ = some (.int .i64 r) := hX1.cell (j := 1) rfl
    have w1c2 : w1.cell? ⟨W.heap.size, 2, none⟩ = some (.string k) := hX1.cell (j := 2) rfl
    have w1c3 : w1.cell? ⟨W.heap.size, 3, none⟩ = some (.slice AA an ac) := hX1.cell (j := 3) rfl
    have w1c4 : w1.cell? ⟨W.heap.size, 4, none⟩ = some (.slice TA tn tc) := hX1.cell (j := 4) rfl
    have w1c5 : w1.cell? ⟨W.heap.size, 5, none⟩ = some (.slice A m c) := hX1.cell (j := 5) rfl
    clear hB1 HL HB0 HX0 hX1
    have HC := Lib.hid (repair28_any t (by have := HSZ.out; omega) w1 (fun b => b < W.heap.size) _ (fun b h => Nat.lt_of_lt_of_le h H1.out.size) (HFT.out.stay (.beneath H1.out (fun b _ h => h) fun _ _ h => h)))
    go_wp2_with fail
    refine HC.out.mono ?_
    rintro e w2 ⟨v2, rfl, hv2, hB2⟩
    obtain ⟨q0, q1, q2, q3, q3n, q3c, q4, q4n, q4c, q5, q5n, q5c, qa, qt, qk, hue, -⟩ := hv2.parts
    have hue2 : v2 = #[.int .i64 q0, .int .i64 q1, .string q2, .slice q3 q3n q3c, .slice q4 q4n q4c, .slice q5 q5n q5c] := by rw [← Array.toArray_toList (xs := v2), hue]
    subst hue2
    clear hue
    have hv2b : NdR w2 w2.heap.size (#[.int .i64 q0, .int .i64 q1, .string q2, .slice q3 q3n q3c, .slice q4 q4n q4c, .slice q5 q5n q5c] : Array Value).toList (repairT t) := hv2.bare
    have hX2 := HX1.out.below hB2 HX1.out.lt
    have hX3 := hX2.alloc (.cells #[.int .i64 q0, .int .i64 q1, .string q2, .slice q3 q3n q3c, .slice q4 q4n q4c, .slice q5 q5n q5c] 31)
    have hM3 := BoxN.made w2 #[.int .i64 q0, .int .i64 q1, .string q2, .slice q3 q3n q3c, .slice q4 q4n q4c, .slice q5 q5n q5c] 31
    have hb3 : Below w2.heap.size w2 (w2.alloc (.cells #[.int .i64 q0, .int .i64 q1, .string q2, .slice q3 q3n q3c, .slice q4 q4n q4c, .slice q5 q5n q5c] 31)) := blAl _
    have h3 : Below W.heap.size W (w2.alloc (.cells #[.int .i64 q0, .int .i64 q1, .string q2, .slice q3 q3n q3c, .slice q4 q4n q4c, .slice q5 q5n q5c] 31)) := (H1.out.trans (hB2.mono H1.out.size)).trans (hb3.mono (Nat.le_trans H1.out.size hB2.size))
    have hv3 : NdR (w2.alloc (.cells #[.int .i64 q0, .int .i64 q1, .string q2, .slice q3 q3n q3c, .slice q4 q4n q4c, .slice q5 q5n q5c] 31)) (w2.alloc (.cells #[.int .i64 q0, .int .i64 q1, .string q2, .slice q3 q3n q3c, .slice q4 q4n q4c, .slice q5 q5n q5c] 31)).heap.size (#[.int .i64 q0, .int .i64 q1, .string q2, .slice q3 q3n q3c, .slice q4 q4n q4c, .slice q5 q5n q5c] : Array Value).toList (repairT t) := hv2b.beneath hb3 hb3.size
    clear w1c0 w1c1 w1c2 w1c3 w1c4 w1c5 HC HX1 H1 hB2 hv2 hv2b hb3 hX2
    go_wp2_with fail
    generalize hw3 : w2.alloc (.cells #[.int .i64 q0, .int .i64 q1, .string q2, .slice q3 q3n q3c, .slice q4 q4n q4c, .slice q5 q5n q5c] 31) = w3 at *
    clear hw3
    have HX3 := Lib.hid hX3
    have HM3 := Lib.hid hM3
    have H3 := Lib.hid h3
    have HV3 := Lib.hid hv3
    clear hX3 hM3 h3 hv3
    refine wp_region_held (S := (fun w' : World => BoxN w' w2.heap.size #[.int .i64 q0, .int .i64 q1, .string q2, .slice q3 q3n q3c, .slice q4 q4n q4c, .slice q5 q5n q5c] 31)) (by kernel_rfl) ?_
    change wpAnyH _ _ _ _ _ _ _ _ w3.drew
    have HSW : (fun w' : World => BoxN w' w2.heap.size #[.int .i64 q0, .int .i64 q1, .string q2, .slice q3 q3n q3c, .slice q4 q4n q4c, .slice q5 q5n q5c] 31) w3.drew := HM3.out
    refine held_take (i := 0) (v := .agg #[.int .i64 q0, .int .i64 q1, .string q2, .slice q3 q3n q3c, .slice q4 q4n q4c, .slice q5 q5n q5c]) rfl (by kernel_rfl) (by kernel_rfl) (by kernel_rfl) (fun _ _ _ h => h) rfl (fun w' hS => by
      have e0 := BoxN.cell (j := 0) hS rfl
      have e1 := BoxN.cell (j := 1) hS rfl
      have e2 := BoxN.cell (j := 2) hS rfl
      have e3 := BoxN.cell (j := 3) hS rfl
      have e4 := BoxN.cell (j := 4) hS rfl
      have e5 := BoxN.cell (j := 5) hS rfl
      clear hS
      go_simp) HSW ?_
    simp only [Act.put, List.setIfInBounds_toArray, List.set_cons_succ, List.set_cons_zero, List.getElem_toArray, List.getElem_cons_succ, List.getElem_cons_zero]
    refine held_take (i := 2) (v := .agg #[.int .i64 q0, .int .i64 q1, .string q2, .slice q3 q3n q3c, .slice q4 q4n q4c, .slice q5 q5n q5c]) rfl (by kernel_rfl) (by kernel_rfl) (by kernel_rfl) (fun _ _ _ h => h) rfl (fun w' hS => by
      have e0 := BoxN.cell (j := 0) hS rfl
      have e1 := BoxN.cell (j := 1) hS rfl
      have e2 := BoxN.cell (j := 2) hS rfl
      have e3 := BoxN.cell (j := 3) hS rfl
      have e4 := BoxN.cell (j := 4) hS rfl
      have e5 := BoxN.cell (j := 5) hS rfl
      clear hS
      go_simp) HSW ?_
    simp only [Act.put, List.setIfInBounds_toArray, List.set_cons_succ, List.set_cons_zero, List.getElem_toArray, List.getElem_cons_succ, List.getElem_cons_zero]
    have hd : Below w3.heap.size w3 w3.drew := (Below.refl _ _).drew
    have hvd : NdR w3.drew w3.drew.heap.size (#[.int .i64 q0, .int .i64 q1, .string q2, .slice q3 q3n q3c, .slice q4 q4n q4c, .slice q5 q5n q5c] : Array Value).toList (repairT t) := HV3.out.beneath hd hd.size
    have hsz2 : rsize (repairT t) ≤ 100000 := by have := repair_size t; have := HSZ.out; omega
    refine held_call (i := 1) (by kernel_rfl) rfl rfl rfl (enters_of Try.func28 (by kernel_rfl) rfl) [.agg #[.int .i64 q0, .int .i64 q1, .string q2, .slice q3 q3n q3c, .slice q4 q4n q4c, .slice q5 q5n q5c]] rfl (repair28_any (repairT t) hsz2 w3.drew (fun b => b < w3.drew.heap.size) _ (fun b h => h) (hvd.foot (Nat.le_refl _) fun _ h => h)) ?_
    rw [repair_twice]
    rintro e w4 ⟨v4, rfl, hv4, hB4⟩
    have h4 : Below w3.heap.size w3 w4 := hd.trans hB4
    have hM4 := HM3.out.below h4 HM3.out.lt
    have HSW4 : (fun w' : World => BoxN w' w2.heap.size #[.int .i64 q0, .int .i64 q1, .string q2, .slice q3 q3n q3c, .slice q4 q4n q4c, .slice q5 q5n q5c] 31) w4 := hM4
    refine ⟨_, rfl, HSW4, ?_⟩
    simp only [Act.put, List.setIfInBounds_toArray, List.set_cons_succ, List.set_cons_zero, List.getElem_toArray, List.getElem_cons_succ, List.getElem_cons_zero]
    refine held_call (i := 3) (by kernel_rfl) rfl rfl rfl (enters_of Try.func27 (by kernel_rfl) rfl) [.agg v4, .agg #[.int .i64 q0, .int .i64 q1, .string q2, .slice q3 q3n q3c, .slice q4 q4n q4c, .slice q5 q5n q5c]] rfl (same19_any (rsize (repairT t) + 1) _ (Nat.lt_succ_self _) (repairT t) _ _ _ hv4.bare (HV3.out.beneath h4 h4.size)) ?_
    rintro e w5 ⟨bb, rfl, hbb, hB5⟩
    obtain rfl := hbb rfl
    have h5 : Below w3.heap.size w3 w5 := h4.trans (hB5.mono h4.size)
    have hM5 := HM3.out.below h5 HM3.out.lt
    have HSW5 : (fun w' : World => BoxN w' w2.heap.size #[.int .i64 q0, .int .i64 q1, .string q2, .slice q3 q3n q3c, .slice q4 q4n q4c, .slice q5 q5n q5c] 31) w5 := hM5
    refine ⟨_, rfl, HSW5, ?_⟩
    simp only [Act.put, List.setIfInBounds_toArray, List.set_cons_succ, List.set_cons_zero, List.getElem_toArray, List.getElem_cons_succ, List.getElem_cons_zero]
    refine held_take (i := 4) (v := .bool true) rfl (by kernel_rfl) (by kernel_rfl) (by kernel_rfl) (fun _ _ _ h => h) rfl (fun w' hS => by
      have e0 := BoxN.cell (j := 0) hS rfl
      have e1 := BoxN.cell (j := 1) hS rfl
      have e2 := BoxN.cell (j := 2) hS rfl
      have e3 := BoxN.cell (j := 3) hS rfl
      have e4 := BoxN.cell (j := 4) hS rfl
      have e5 := BoxN.cell (j := 5) hS rfl
      clear hS
      go_simp) HSW5 ?_
    simp only [Act.put, List.setIfInBounds_toArray, List.set_cons_succ, List.set_cons_zero, List.getElem_toArray, List.getElem_cons_succ, List.getElem_cons_zero]
    refine wpAnyH_done (by kernel_rfl) ?_ _
    have hX5 := HX3.out.below h5 HX3.out.lt
    have hv5 := HV3.out.beneath h5 h5.size
    have H5 := Lib.hid (H3.out.trans (h5.mono H3.out.size))
    have HX5 := Lib.hid hX5
    have HSM := Lib.hid (same19_any (rsize (repairT t) + 1) _ (Nat.lt_succ_self _) t _ _ _ hv5 (HV.out.beneath H5.out H5.out.size))
    have w5c0 : w5.cell? ⟨W.heap.size, 0, none⟩ = some (.int .i64 n) := hX5.cell (j := 0) rfl
    have w5c1 : w5.cell? ⟨W.heap.size, 1, none⟩ = some (.int .i64 r) := hX5.cell (j := 1) rfl
    have w5c2 : w5.cell? ⟨W.heap.size, 2, none⟩ = some (.string k) := hX5.cell (j := 2) rfl
    have w5c3 : w5.cell? ⟨W.heap.size, 3, none⟩ = some (.slice AA an ac) := hX5.cell (j := 3) rfl
    have w5c4 : w5.cell? ⟨W.heap.size, 4, none⟩ = some (.slice TA tn tc) := hX5.cell (j := 4) rfl
    have w5c5 : w5.cell? ⟨W.heap.size, 5, none⟩ = some (.slice A m c) := hX5.cell (j := 5) rfl
    have w5m0 : w5.cell? ⟨w2.heap.size, 0, none⟩ = some (.int .i64 q0) := hM5.cell (j := 0) rfl
    have w5m1 : w5.cell? ⟨w2.heap.size, 1, none⟩ = some (.int .i64 q1) := hM5.cell (j := 1) rfl
    have w5m2 : w5.cell? ⟨w2.heap.size, 2, none⟩ = some (.string q2) := hM5.cell (j := 2) rfl
    have w5m3 : w5.cell? ⟨w2.heap.size, 3, none⟩ = some (.slice q3 q3n q3c) := hM5.cell (j := 3) rfl
    have w5m4 : w5.cell? ⟨w2.heap.size, 4, none⟩ = some (.slice q4 q4n q4c) := hM5.cell (j := 4) rfl
    have w5m5 : w5.cell? ⟨w2.heap.size, 5, none⟩ = some (.slice q5 q5n q5c) := hM5.cell (j := 5) rfl
    clear HSW HSW4 HSW5 hd hvd h4 h5 hM4 hM5 hX5 hv5 hv4 hB4 hB5 hbb HM3 HX3 H3 HV3
    go_wp2_with fail
    refine HSM.out.mono ?_
    rintro e w6 ⟨b6, rfl, hb6, hB6⟩
    have hX6 := HX5.out.below hB6 HX5.out.lt
    have H6 := Lib.hid (H5.out.trans (hB6.mono H5.out.size))
    have HX6 := Lib.hid hX6
    have HB6 := Lib.hid hb6
    clear hX6 hB6 hb6 HSM HX5 w5c0 w5c1 w5c2 w5c3 w5c4 w5c5 w5m0 w5m1 w5m2 w5m3 w5m4 w5m5
    go_wp2_with fail
    refine (alive26_any _).mono ?_
    rintro e w7 ⟨rfl, hB7⟩
    have hX7 := HX6.out.below hB7 HX6.out.lt
    have H7 := Lib.hid (H6.out.trans (hB7.mono H6.out.size))
    have w7c0 : w7.cell? ⟨W.heap.size, 0, none⟩ = some (.int .i64 n) := hX7.cell (j := 0) rfl
    have w7c1 : w7.cell? ⟨W.heap.size, 1, none⟩ = some (.int .i64 r) := hX7.cell (j := 1) rfl
    have w7c2 : w7.cell? ⟨W.heap.size, 2, none⟩ = some (.string k) := hX7.cell (j := 2) rfl
    have w7c3 : w7.cell? ⟨W.heap.size, 3, none⟩ = some (.slice AA an ac) := hX7.cell (j := 3) rfl
    have w7c4 : w7.cell? ⟨W.heap.size, 4, none⟩ = some (.slice TA tn tc) := hX7.cell (j := 4) rfl
    have w7c5 : w7.cell? ⟨W.heap.size, 5, none⟩ = some (.slice A m c) := hX7.cell (j := 5) rfl
    have HR := Lib.hid (gright_any (HV.out.beneath H7.out H7.out.size).nd (Nat.le_refl _))
    clear hX7 hB7 HX6
    cases b6
    case true =>
      go_wp2_with fail
      go_ret
      exact ⟨rfl, H7.out⟩
    case false =>
      have hnr : rightT (erase t) = false := by
        cases h : rightT (erase t) with
        | false => rfl
        | true => exact absurd (HB6.out (repair_stays h)) (by decide)
      rw [hnr] at HR
      clear hnr
      go_wp2_with fail
      refine HR.out.mono ?_
      rintro e w8 ⟨rfl, hB8⟩
      have H8 := Lib.hid (H7.out.trans (hB8.mono H7.out.size))
      clear hB8
      go_wp2_with fail
      go_ret
      exact ⟨rfl, H8.out⟩
end Go.Proofs.Ytcdhndhgainadaa.repairStays
