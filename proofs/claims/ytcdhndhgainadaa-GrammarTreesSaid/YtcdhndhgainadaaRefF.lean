/-
  The contracts of the document's Fault and Right, from what is shown of fault and fine.
-/
import Derived.Test.YtcdhndhgainadaaFaultAll
import Derived.Test.YtcdhndhgainadaaRightF
namespace Go.Proofs.Ytcdhndhgainadaa
open Go Go.RowKit
set_option linter.unusedVariables false

set_option maxRecDepth 100000 in
set_option maxHeartbeats 4000000 in
theorem rfault_any {t : Tree} (ha : FaultAll t) {v : List Value} {B : Nat} {w : World} (hNd : Nd w B v t) (hB : B ≤ w.heap.size) :
    Calls Try.prog 21 #[.agg v.toArray] w fun e w' => e = .returned (fltV (faultT true .other t)) ∧ Below w.heap.size w w' := by
  obtain ⟨n, r, k, AA, an, ac, TA, tn, tc, A, m, c, rfl⟩ := hNd.six
  have hF : Below w.heap.size w ((w.alloc (.cells #[.int .i64 n, .int .i64 r, .string k, .slice AA an ac, .slice TA tn tc, .slice A m c] 31)).alloc (.cells #[.int .i64 0, .int .i64 0] 26)) := ((Below.refl _ w).alloc (Nat.le_refl _) _).alloc (by simp) _
  have HC := Lib.hid (ha _ ⟨#[]⟩ true B _ (hNd.keep (Nat.le_refl _) fun q hq => hF.cell (Nat.lt_of_lt_of_le hq hB)) (Nat.le_trans hB hF.size))
  have hR := BoxN.made (w.alloc (.cells #[.int .i64 n, .int .i64 r, .string k, .slice AA an ac, .slice TA tn tc, .slice A m c] 31)) #[.int .i64 0, .int .i64 0] 26
  rw [World.size_alloc] at hR
  have HF := Lib.hid hF
  have HR := Lib.hid hR
  have hk : kd ⟨#[]⟩ = .other := by decide
  rw [hk] at HC
  obtain ⟨xn, xr, xy, hx⟩ : ∃ xn xr xy, faultT true .other t = (xn, xr, xy) := ⟨_, _, _, rfl⟩
  rw [hx] at HC ⊢
  simp only [fltV] at HC ⊢
  clear hNd hF hR hk hx ha
  go_enter Try.func21, Try.ntmps21
  go_wp2_with fail
  refine HC.out.mono ?_
  rintro e w4 ⟨rfl, hB4⟩
  have hR4 := HR.out.below hB4 (by simp)
  have y0 : w4.cell? ⟨w.heap.size + 1, 0, none⟩ = some (.int .i64 0) := hR4.cell (j := 0) rfl
  have y1 : w4.cell? ⟨w.heap.size + 1, 1, none⟩ = some (.int .i64 0) := hR4.cell (j := 1) rfl
  have y2 : w4.frozen? ⟨w.heap.size + 1, 0, none⟩ = false := hR4.frozen
  have y3 : w4.frozen? ⟨w.heap.size + 1, 1, none⟩ = false := hR4.frozen
  have hR5 := hR4.set2 (.int .i64 xn) (.int .i64 xr)
  have r0 := hR5.cell (j := 0) rfl
  have r1 := hR5.cell (j := 1) rfl
  have HBF := Lib.hid (((HF.out.trans (hB4.mono HF.out.size)).setCell (p := ⟨w.heap.size + 1, 0, none⟩) (by simp) (.int .i64 xn)).setCell (p := ⟨w.heap.size + 1, 1, none⟩) (by simp) (.int .i64 xr))
  clear hR4 hR5 hB4 HC HR HF
  go_wp2_with fail
  refine bodyPost_ret (v := .tuple #[.agg #[.int .i64 xn, .int .i64 xr], .string xy.str]) (by simp [results, Try.results21, go_sem, r0, r1]) rfl ?_
  exact ⟨rfl, HBF.out⟩

set_option maxRecDepth 100000 in
set_option maxHeartbeats 4000000 in
theorem rright_any {t : Tree} (ha : FineAll t) {v : List Value} {B : Nat} {w : World} (hNd : Nd w B v t) (hB : B ≤ w.heap.size) :
    Calls Try.prog 23 #[.agg v.toArray] w fun e w' => e = .returned (.bool (rightT t)) ∧ Below w.heap.size w w' := by
  obtain ⟨n, r, k, AA, an, ac, TA, tn, tc, A, m, c, rfl⟩ := hNd.six
  have hF : Below w.heap.size w (w.alloc (.cells #[.int .i64 n, .int .i64 r, .string k, .slice AA an ac, .slice TA tn tc, .slice A m c] 31)) := (Below.refl _ w).alloc (Nat.le_refl _) _
  have HC := Lib.hid (ha _ ⟨#[]⟩ true B _ (hNd.keep (Nat.le_refl _) fun q hq => hF.cell (Nat.lt_of_lt_of_le hq hB)) (Nat.le_trans hB hF.size))
  have HF := Lib.hid hF
  have hk : kd ⟨#[]⟩ = .other := by decide
  rw [hk] at HC
  have hrt : decide ((faultT true .other t).2.2 = .fine) = rightT t := rfl
  rw [hrt] at HC
  clear hNd hF hk hrt ha
  go_enter Try.func23, Try.ntmps23
  go_wp2_with fail
  refine HC.out.mono ?_
  rintro e w4 ⟨rfl, hB4⟩
  have HBF := Lib.hid (HF.out.trans (hB4.mono HF.out.size))
  clear hB4 HC HF
  go_wp2_with fail
  go_ret
  exact ⟨rfl, HBF.out⟩
end Go.Proofs.Ytcdhndhgainadaa
