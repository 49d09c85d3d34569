/-
  THE WALK OF GrammarFirst.
-/
import Derived.Test.YtcdhndhgainadaaStandsF
import Derived.Test.YtcdhndhgainadaaFirstLaw
import Derived.Test.YtcdhndhgainadaaOpenD
namespace Go.Proofs.Ytcdhndhgainadaa.grammarFirst
open Go Go.RowKit
set_option linter.unusedVariables false

set_option maxRecDepth 100000 in
set_option maxHeartbeats 4000000 in
theorem walk (W : World) (v : List Value) (t : Tree) (hNd : Nd W W.heap.size v t) : Calls Try.prog 7 #[.agg v.toArray] W fun e w' => e = .returned (.bool true) ∧ Below W.heap.size W w' := by
  cases hNd with
  | mk n r k AA an ac A c TA tn tc kc ks hk hkids hcap hmax htn =>
  obtain ⟨T, hT⟩ : ∃ T, Tree.node n r k tn ks = T := ⟨_, rfl⟩
  obtain ⟨m, hm⟩ : ∃ m, ks.length = m := ⟨_, rfl⟩
  have hnd : Nd W W.heap.size [.int .i64 n, .int .i64 r, .string k, .slice AA an ac, .slice TA tn tc, .slice A m c] T := by
    rw [← hT, ← hm]; exact .mk n r k AA an ac A c TA tn tc kc ks hk hkids hcap hmax htn
  have hF0 : Below W.heap.size W (W.alloc (.cells #[.int .i64 n, .int .i64 r, .string k, .slice AA an ac, .slice TA tn tc, .slice A m c] 31)) := (Below.refl _ W).alloc (Nat.le_refl _) _
  have HND := Lib.hid (fun (w1 : World) (h : Below W.heap.size W w1) => hnd.beneath h)
  have HF0 := Lib.hid hF0
  have HX0 := Lib.hid (BoxN.made W #[.int .i64 n, .int .i64 r, .string k, .slice AA an ac, .slice TA tn tc, .slice A m c] 31)
  have HC := Lib.hid (count_any (tsz T + 1) T (Nat.lt_succ_self _) _ 300 (by omega) (by omega) _ _ (hnd.beneath hF0) hF0.size)
  obtain ⟨xn, xr, xy, hx⟩ : ∃ xn xr xy, faultT true .other T = (xn, xr, xy) := ⟨_, _, _, rfl⟩
  have hz : xy = .fine → xn = 0 ∧ xr = 0 := fun h => by
    have := fault_zero true .other T (by rw [hx]; exact h)
    rw [hx] at this
    injection this with a b
    injection b with b _
    exact ⟨a, b⟩
  have hs : xy ≠ .fine → standsT xn xr T = true := fun h => by
    have := fault_stands true .other T (by rw [hx]; exact h)
    rw [hx] at this
    exact this
  have hr : xy = .root → xn = n ∧ xr = r := fun h => by
    have := fault_root (p := .other) (n := n) (r := r) (k := k) (tn := tn) (ks := ks) (by rw [hT, hx]; exact h)
    rw [hT, hx] at this
    exact this
  have HG := Lib.hid (fun (w1 : World) (h : Below W.heap.size W w1) => gfault_any (hnd.beneath h) h.size)
  have HST := Lib.hid (fun (w1 : World) (h : Below W.heap.size W w1) => stands_any xn xr (tsz T + 1) T (Nat.lt_succ_self _) _ _ w1 (hnd.beneath h) h.size)
  simp only [hx, fltV] at HG
  have HZ := Lib.hid hz
  have HS := Lib.hid hs
  have HR := Lib.hid hr
  rw [hm] at hcap ⊢
  clear hk hkids hm hnd hF0 hx hz hs hr hT
  go_enter Try.func7, Try.ntmps7
  go_wp2_with fail
  refine HC.out.mono ?_
  rintro e w1 ⟨cn, rfl, hc1, hc2, hB1⟩
  have H1 := Lib.hid (HF0.out.trans (hB1.mono HF0.out.size))
  have HX1 := Lib.hid (HX0.out.below hB1 HX0.out.lt)
  clear HC HF0 HX0 hB1
  by_cases hbig : 300 < cn
  · go_wp2_with fail
    refine (alive_any w1).mono ?_
    rintro e w2 ⟨rfl, hB2⟩
    have H2 := Lib.hid (H1.out.trans (hB2.mono H1.out.size))
    clear hB2
    go_wp2_with fail
    go_ret
    exact ⟨rfl, H2.out⟩
  · have n0 : w1.cell? ⟨W.heap.size, 0, none⟩ = some (.int .i64 n) := HX1.out.cell (j := 0) rfl
    have n1 : w1.cell? ⟨W.heap.size, 1, none⟩ = some (.int .i64 r) := HX1.out.cell (j := 1) rfl
    have n2 : w1.cell? ⟨W.heap.size, 2, none⟩ = some (.string k) := HX1.out.cell (j := 2) rfl
    have n3 : w1.cell? ⟨W.heap.size, 3, none⟩ = some (.slice AA an ac) := HX1.out.cell (j := 3) rfl
    have n4 : w1.cell? ⟨W.heap.size, 4, none⟩ = some (.slice TA tn tc) := HX1.out.cell (j := 4) rfl
    have n5 : w1.cell? ⟨W.heap.size, 5, none⟩ = some (.slice A m c) := HX1.out.cell (j := 5) rfl
    go_wp2_with fail
    refine (HG.out w1 H1.out).mono ?_
    rintro e w2 ⟨rfl, hB2⟩
    have H2 := Lib.hid (H1.out.trans (hB2.mono H1.out.size))
    have HX2 := Lib.hid (HX1.out.below hB2 HX1.out.lt)
    clear hB2 H1 HX1 n0 n1 n2 n3 n4 n5
    have HY2 := Lib.hid (BoxN.made w2 #[.int .i64 xn, .int .i64 xr] 26)
    have HX3 := Lib.hid (HX2.out.alloc (.cells #[.int .i64 xn, .int .i64 xr] 26))
    have H3 := Lib.hid (H2.out.alloc H2.out.size (.cells #[.int .i64 xn, .int .i64 xr] 26))
    by_cases hfine : xy = .fine
    · subst hfine
      obtain ⟨rfl, rfl⟩ := HZ.out rfl
      have g1 : (Wy.fine.str.toList == []) = true := by rw [Wy.str_fine]; rfl
      go_wp2_with fail
      refine (alive_any _).mono ?_
      rintro e w4 ⟨rfl, hB4⟩
      have y4 := HY2.out.below hB4 HY2.out.lt
      have y0 : w4.cell? ⟨w2.heap.size, 0, none⟩ = some (.int .i64 0) := y4.cell (j := 0) rfl
      have y1 : w4.cell? ⟨w2.heap.size, 1, none⟩ = some (.int .i64 0) := y4.cell (j := 1) rfl
      have H4 := Lib.hid (H3.out.trans (hB4.mono H3.out.size))
      clear hB4 y4 HX2 HX3 HY2 H2 H3
      go_wp2_with fail
      go_ret
      exact ⟨rfl, H4.out⟩
    · have g1 : (xy.str.toList == []) = false := by rw [Wy.str_fine]; simpa using hfine
      have hst := HS.out hfine
      simp only [hst] at HST
      have hlt2 : W.heap.size < w2.heap.size := HX2.out.lt
      have q0 : w2.cell? ⟨W.heap.size, 0, none⟩ = some (.int .i64 n) := HX2.out.cell (j := 0) rfl
      have q1 : w2.cell? ⟨W.heap.size, 1, none⟩ = some (.int .i64 r) := HX2.out.cell (j := 1) rfl
      have q2 : w2.cell? ⟨W.heap.size, 2, none⟩ = some (.string k) := HX2.out.cell (j := 2) rfl
      have q3 : w2.cell? ⟨W.heap.size, 3, none⟩ = some (.slice AA an ac) := HX2.out.cell (j := 3) rfl
      have q4 : w2.cell? ⟨W.heap.size, 4, none⟩ = some (.slice TA tn tc) := HX2.out.cell (j := 4) rfl
      have q5 : w2.cell? ⟨W.heap.size, 5, none⟩ = some (.slice A m c) := HX2.out.cell (j := 5) rfl
      have hne : ¬ W.heap.size = w2.heap.size := by omega
      have hfn := Lib.hid hfine
      clear hst hfine
      go_wp2_with fail
      refine (HST.out _ H3.out).mono ?_
      rintro e w4 ⟨rfl, hB4⟩
      have HY4 := Lib.hid (HY2.out.below hB4 HY2.out.lt)
      have HX4 := Lib.hid (HX3.out.below hB4 HX3.out.lt)
      have H4 := Lib.hid (H3.out.trans (hB4.mono H3.out.size))
      clear hB4 HX2 HX3 HY2 H2 H3 q0 q1 q2 q3 q4 q5 hne g1
      cases xy with
      | fine => exact absurd rfl hfn.out
      | root =>
        obtain ⟨rfl, rfl⟩ := HR.out rfl
        simp only [Wy.str]
        go_wp2_with fail
        refine (alive_any _).mono ?_
        rintro e w5 ⟨rfl, hB5⟩
        have y5 := HY4.out.below hB5 HY4.out.lt
        have x5 := HX4.out.below hB5 HX4.out.lt
        have y0 : w5.cell? ⟨w2.heap.size, 0, none⟩ = some (.int .i64 xn) := y5.cell (j := 0) rfl
        have y1 : w5.cell? ⟨w2.heap.size, 1, none⟩ = some (.int .i64 xr) := y5.cell (j := 1) rfl
        have x0 : w5.cell? ⟨W.heap.size, 0, none⟩ = some (.int .i64 xn) := x5.cell (j := 0) rfl
        have x1 : w5.cell? ⟨W.heap.size, 1, none⟩ = some (.int .i64 xr) := x5.cell (j := 1) rfl
        have H5 := Lib.hid (H4.out.trans (hB5.mono H4.out.size))
        clear hB5 y5 x5
        go_wp2_with fail
        go_ret
        exact ⟨rfl, H5.out⟩
      | kind | place | text | empty =>
        simp only [Wy.str]
        go_wp2_with fail
        refine (alive_any _).mono ?_
        rintro e w5 ⟨rfl, hB5⟩
        have H5 := Lib.hid (H4.out.trans (hB5.mono H4.out.size))
        clear hB5
        go_wp2_with fail
        go_ret
        exact ⟨rfl, H5.out⟩
end Go.Proofs.Ytcdhndhgainadaa.grammarFirst
