/-
  THE WALK OF GrammarTrees, from what is shown of fault and fine.
-/
import Derived.Test.YtcdhndhgainadaaCountF
import Derived.Test.YtcdhndhgainadaaRefF
namespace Go.Proofs.Ytcdhndhgainadaa
open Go Go.RowKit
set_option linter.unusedVariables false
set_option linter.unusedSimpArgs false

set_option maxRecDepth 100000 in
set_option maxHeartbeats 4000000 in
theorem trees_walk (hfa : ∀ t, FaultAll t) (hfi : ∀ t, FineAll t) (W : World) (v : List Value) (t : Tree) (hNd : Nd W W.heap.size v t) : Calls Try.prog 4 #[.agg v.toArray] W fun e w' => e = .returned (.bool true) ∧ Below W.heap.size W w' := by
  have hnd := hNd
  obtain ⟨n, r, k, AA, an, ac, TA, tn, tc, A, m, c, rfl⟩ := hNd.six
  have hF0 : Below W.heap.size W (W.alloc (.cells #[.int .i64 n, .int .i64 r, .string k, .slice AA an ac, .slice TA tn tc, .slice A m c] 31)) := (Below.refl _ W).alloc (Nat.le_refl _) _
  have HF0 := Lib.hid hF0
  have HX0 := Lib.hid (BoxN.made W #[.int .i64 n, .int .i64 r, .string k, .slice AA an ac, .slice TA tn tc, .slice A m c] 31)
  have HC := Lib.hid (count_any (tsz t + 1) t (Nat.lt_succ_self _) _ 300 (by omega) (by omega) _ _ (hnd.beneath hF0) hF0.size)
  obtain ⟨xn, xr, xy, hx⟩ : ∃ xn xr xy, faultT true .other t = (xn, xr, xy) := ⟨_, _, _, rfl⟩
  obtain ⟨rt, hrt⟩ : ∃ rt, rightT t = rt := ⟨_, rfl⟩
  have HG := Lib.hid (fun (w1 : World) (h : Below W.heap.size W w1) => gfault_any (hnd.beneath h) h.size)
  have HRF := Lib.hid (fun (w1 : World) (h : Below W.heap.size W w1) => rfault_any (hfa t) (hnd.beneath h) h.size)
  have HRI := Lib.hid (fun (w1 : World) (h : Below W.heap.size W w1) => gright_any (hnd.beneath h) h.size)
  have HRR := Lib.hid (fun (w1 : World) (h : Below W.heap.size W w1) => rright_any (hfi t) (hnd.beneath h) h.size)
  simp only [hx, fltV] at HG HRF
  simp only [hrt] at HRI HRR
  clear hnd hNd hF0 hx hrt hfa hfi
  go_enter Try.func4, Try.ntmps4
  go_wp2_with fail
  refine HC.out.mono ?_
  rintro e w1 ⟨cn, rfl, hc1, hc2, hB1⟩
  have H1 := Lib.hid (HF0.out.trans (hB1.mono HF0.out.size))
  have HX1 := Lib.hid (HX0.out.below hB1 HX0.out.lt)
  clear HC HF0 HX0 hB1
  by_cases hbig : 300 < cn
  · go_wp2_with fail
    refine (alive_any w1).mono ?_
    rintro e w2 ⟨rfl, hB2⟩
    have H2 := Lib.hid (H1.out.trans (hB2.mono H1.out.size))
    clear hB2
    go_wp2_with fail
    go_ret
    exact ⟨rfl, H2.out⟩
  · have n0 : w1.cell? ⟨W.heap.size, 0, none⟩ = some (.int .i64 n) := HX1.out.cell (j := 0) rfl
    have n1 : w1.cell? ⟨W.heap.size, 1, none⟩ = some (.int .i64 r) := HX1.out.cell (j := 1) rfl
    have n2 : w1.cell? ⟨W.heap.size, 2, none⟩ = some (.string k) := HX1.out.cell (j := 2) rfl
    have n3 : w1.cell? ⟨W.heap.size, 3, none⟩ = some (.slice AA an ac) := HX1.out.cell (j := 3) rfl
    have n4 : w1.cell? ⟨W.heap.size, 4, none⟩ = some (.slice TA tn tc) := HX1.out.cell (j := 4) rfl
    have n5 : w1.cell? ⟨W.heap.size, 5, none⟩ = some (.slice A m c) := HX1.out.cell (j := 5) rfl
    go_wp2_with fail
    refine (HG.out w1 H1.out).mono ?_
    rintro e w2 ⟨rfl, hB2⟩
    have H2 := Lib.hid (H1.out.trans (hB2.mono H1.out.size))
    have HX2 := Lib.hid (HX1.out.below hB2 HX1.out.lt)
    clear hB2 H1 HX1 n0 n1 n2 n3 n4 n5
    have HX3 := Lib.hid (HX2.out.alloc (.cells #[.int .i64 xn, .int .i64 xr] 26))
    have HP3 := Lib.hid (BoxN.made w2 #[.int .i64 xn, .int .i64 xr] 26)
    have H3 := Lib.hid (H2.out.alloc H2.out.size (.cells #[.int .i64 xn, .int .i64 xr] 26))
    have hlt2 : W.heap.size < w2.heap.size := HX2.out.lt
    have q0 : w2.cell? ⟨W.heap.size, 0, none⟩ = some (.int .i64 n) := HX2.out.cell (j := 0) rfl
    have q1 : w2.cell? ⟨W.heap.size, 1, none⟩ = some (.int .i64 r) := HX2.out.cell (j := 1) rfl
    have q2 : w2.cell? ⟨W.heap.size, 2, none⟩ = some (.string k) := HX2.out.cell (j := 2) rfl
    have q3 : w2.cell? ⟨W.heap.size, 3, none⟩ = some (.slice AA an ac) := HX2.out.cell (j := 3) rfl
    have q4 : w2.cell? ⟨W.heap.size, 4, none⟩ = some (.slice TA tn tc) := HX2.out.cell (j := 4) rfl
    have q5 : w2.cell? ⟨W.heap.size, 5, none⟩ = some (.slice A m c) := HX2.out.cell (j := 5) rfl
    have hne : ¬ W.heap.size = w2.heap.size := by omega
    go_wp2_with fail
    refine (HRF.out _ H3.out).mono ?_
    rintro e w3 ⟨rfl, hB3⟩
    have H4 := Lib.hid (H3.out.trans (hB3.mono H3.out.size))
    have HX4 := Lib.hid ((HX3.out.below hB3 HX3.out.lt).alloc (.cells #[.int .i64 xn, .int .i64 xr] 26))
    have HP4 := Lib.hid ((HP3.out.below hB3 HP3.out.lt).alloc (.cells #[.int .i64 xn, .int .i64 xr] 26))
    have HQ4 := Lib.hid (BoxN.made w3 #[.int .i64 xn, .int .i64 xr] 26)
    have H5 := Lib.hid (H4.out.alloc H4.out.size (.cells #[.int .i64 xn, .int .i64 xr] 26))
    clear hB3 HX2 HX3 H2 H3 HP3 q0 q1 q2 q3 q4 q5 hne hlt2 H4
    obtain ⟨wd, hwd⟩ : ∃ wd, (w3.alloc (.cells #[.int .i64 xn, .int .i64 xr] 26)) = wd := ⟨_, rfl⟩
    obtain ⟨pp, hpp⟩ : ∃ pp, w2.heap.size = pp := ⟨_, rfl⟩
    obtain ⟨pq, hpq⟩ : ∃ pq, w3.heap.size = pq := ⟨_, rfl⟩
    rw [hwd] at HX4 HP4 HQ4 H5
    rw [hpp] at HP4
    rw [hpq] at HQ4
    have HWD := Lib.hid hwd
    clear hwd
    have hrr : (rt == rt) = true := by simp
    have hss : (xy.str.toList == xy.str.toList) = true := by simp
    go_wp2_with fail
    simp only [HWD.out, hpp, hpq]
    go_region_with (first
      | (go_at_call 14; refine (alive_any _).mono ?_; rintro e w6 ⟨rfl, hB6⟩
         have hX6 := HX4.out.below (w := wd.drew) hB6 HX4.out.lt
         have hP6 := HP4.out.below (w := wd.drew) hB6 HP4.out.lt
         have hQ6 := HQ4.out.below (w := wd.drew) hB6 HQ4.out.lt
         have x0 : w6.cell? ⟨W.heap.size, 0, none⟩ = some (.int .i64 n) := hX6.cell (j := 0) rfl
         have x1 : w6.cell? ⟨W.heap.size, 1, none⟩ = some (.int .i64 r) := hX6.cell (j := 1) rfl
         have x2 : w6.cell? ⟨W.heap.size, 2, none⟩ = some (.string k) := hX6.cell (j := 2) rfl
         have x3 : w6.cell? ⟨W.heap.size, 3, none⟩ = some (.slice AA an ac) := hX6.cell (j := 3) rfl
         have x4 : w6.cell? ⟨W.heap.size, 4, none⟩ = some (.slice TA tn tc) := hX6.cell (j := 4) rfl
         have x5 : w6.cell? ⟨W.heap.size, 5, none⟩ = some (.slice A m c) := hX6.cell (j := 5) rfl
         have y0 : w6.cell? ⟨pp, 0, none⟩ = some (.int .i64 xn) := hP6.cell (j := 0) rfl
         have y1 : w6.cell? ⟨pp, 1, none⟩ = some (.int .i64 xr) := hP6.cell (j := 1) rfl
         have z0 : w6.cell? ⟨pq, 0, none⟩ = some (.int .i64 xn) := hQ6.cell (j := 0) rfl
         have z1 : w6.cell? ⟨pq, 1, none⟩ = some (.int .i64 xr) := hQ6.cell (j := 1) rfl
         have HX6 := Lib.hid hX6
         have H6 := Lib.hid ((H5.out.trans (Below.refl _ _).drew).trans (hB6.mono H5.out.size))
         clear hB6 hX6 hP6 hQ6)
      | (go_at_call 22; refine (HRI.out _ H6.out).mono ?_; rintro e w7 ⟨rfl, hB7⟩
         have hX7 := HX6.out.below hB7 HX6.out.lt
         have u0 : w7.cell? ⟨W.heap.size, 0, none⟩ = some (.int .i64 n) := hX7.cell (j := 0) rfl
         have u1 : w7.cell? ⟨W.heap.size, 1, none⟩ = some (.int .i64 r) := hX7.cell (j := 1) rfl
         have u2 : w7.cell? ⟨W.heap.size, 2, none⟩ = some (.string k) := hX7.cell (j := 2) rfl
         have u3 : w7.cell? ⟨W.heap.size, 3, none⟩ = some (.slice AA an ac) := hX7.cell (j := 3) rfl
         have u4 : w7.cell? ⟨W.heap.size, 4, none⟩ = some (.slice TA tn tc) := hX7.cell (j := 4) rfl
         have u5 : w7.cell? ⟨W.heap.size, 5, none⟩ = some (.slice A m c) := hX7.cell (j := 5) rfl
         have H7 := Lib.hid (H6.out.trans (hB7.mono H6.out.size))
         clear hB7 hX7)
      | (go_at_call 23; refine (HRR.out _ H7.out).mono ?_; rintro e w8 ⟨rfl, hB8⟩
         have H8 := Lib.hid (H7.out.trans (hB8.mono H7.out.size))
         clear hB8))
    all_goals
      go_wp2_with fail
      go_ret
      exact ⟨rfl, H8.out⟩
end Go.Proofs.Ytcdhndhgainadaa
