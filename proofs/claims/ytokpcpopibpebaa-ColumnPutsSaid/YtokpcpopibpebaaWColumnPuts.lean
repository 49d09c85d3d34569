/-
  THE WALK OF ColumnPuts.
-/
import Derived.Test.YtokpcpopibpebaaOpenCol
import Derived.Test.YtokpcpopibpebaaAlive4F
namespace Go.Proofs.Ytokpcpopibpebaa.columnPuts
open Go Go.RowKit
set_option linter.unusedVariables false
set_option linter.unusedSimpArgs false

set_option maxRecDepth 100000 in
set_option maxHeartbeats 4000000 in
theorem walk (W : World) (A : Option Addr) (n c : Nat) (l : List Int) (k : Ints W A n c l) (A' : Option Addr) (m c' : Nat) (t : List Bool) (k' : Truths W A' m c' t) :
    Calls Try.prog 10 #[.slice A n c, .slice A' m c'] W fun e w' => e = .returned (.bool true) ∧ Below W.heap.size W w' := by
  have K := Lib.hid k
  have K' := Lib.hid k'
  have hr := k.reach
  have hr' := k'.reach
  clear k k'
  by_cases h1 : 2000 < n
  · go_enter Try.func10, Try.ntmps10
    go_wp2_with fail
    refine (alive4_any W).mono ?_
    rintro e w1 ⟨rfl, hB1⟩
    have HB1 := Lib.hid hB1
    clear hB1
    go_wp2_with fail
    go_ret
    exact ⟨rfl, HB1.out⟩
  · by_cases h2 : 2000 < m
    · go_enter Try.func10, Try.ntmps10
      go_wp2_with fail
      refine (alive4_any W).mono ?_
      rintro e w1 ⟨rfl, hB1⟩
      have HB1 := Lib.hid hB1
      clear hB1
      go_wp2_with fail
      go_ret
      exact ⟨rfl, HB1.out⟩
    · go_enter Try.func10, Try.ntmps10
      go_wp2_with (at_builtin; refine wpList_app _ rfl (.tmp 19) (.tmp 20) 38 rfl W W.heap.size 3 (.int .i64 0) 1 8 Try.underlying38 info3 rfl (by decide) _ 0 [] rfl (own_empty W _ 3 1 (Nat.le_refl _)) W.heap.size A n c (i64s l) rfl (K.out.rd.alloc (Nat.le_refl _) _) (i64s_one _) (by unfold maxLen; omega) (by omega) ((Below.refl _ _).alloc (Nat.le_refl _) _) (Nat.le_refl _) ?_)
      intro A1 c1 w1 own1 hg1 hB1
      clear hg1
      go_wp2_with (at_builtin; refine wpList_app1 _ rfl (.tmp 21) (.tmp 22) 38 rfl W W.heap.size 3 (.int .i64 0) 8 Try.underlying38 info3 rfl w1 (.int .i64 77) rfl rfl _ _ _ rfl own1 rfl (by unfold maxLen; omega) (by omega) hB1 (Nat.le_refl _) ?_)
      intro A2 c2 w2 own2 hg2 hB2
      have hcap := own_cap own2
      have O2 : Hid (Rd w2 w2.heap.size 1 A2 (n + 1) (i64s (l ++ [77]))) := Lib.hid (by rw [i64s_append]; exact Rd.of_own own2)
      have B2 := Lib.hid hB2
      have hc2 : n + 1 ≤ c2 := by omega
      have hc2' : n ≤ c2 := by omega
      have hm2 : c2 ≤ 9223372036854775807 := hcap.2
      have RO : Hid (∀ w, Below w2.heap.size w2 w → Rd w w.heap.size 1 A2 n (i64s l)) := Lib.hid fun w hb => by
        have := ((O2.out.below hb).take1 (k := n) (by omega)).more hb.size
        rwa [i64s_append, List.take_left' (by rw [i64s_len, K.out.len])] at this
      have RL : Hid (∀ w, Below w2.heap.size w2 w → Rd w w.heap.size 1 A n (i64s l)) := Lib.hid fun w hb =>
        (K.out.rd.below (B2.out.trans (hb.mono B2.out.size))).more (Nat.le_trans B2.out.size hb.size)
      have RT : Hid (∀ w, Below w2.heap.size w2 w → Rd w w.heap.size 1 A' m (bls t)) := Lib.hid fun w hb =>
        (K'.out.rd.below (B2.out.trans (hb.mono B2.out.size))).more (Nat.le_trans B2.out.size hb.size)
      have X2 := Lib.hid (Below.refl w2.heap.size w2)
      clear own1 hB1 own2 hg2 hB2 hcap
      go_wp2_with fail
      refine (runs_any A2 n c2 l (by omega) hc2' (by unfold maxLen; omega) K.out.inI w2 (RO.out _ X2.out)).mono ?_
      rintro e w3 ⟨A3, c3, rfl, own3, hB3⟩
      have R3 := Lib.hid (Rd.of_own own3)
      have X3 := Lib.hid (X2.out.trans (hB3.mono X2.out.size))
      clear own3 hB3 X2
      go_wp2_with fail
      refine (rruns_any A n c l (by omega) K.out.cap K.out.max K.out.inI w3 (RL.out _ X3.out)).mono ?_
      rintro e w4 ⟨A4, c4, rfl, own4, hB4⟩
      have R4 := Lib.hid (Rd.of_own own4)
      have R3' := Lib.hid (R3.out.below hB4)
      have X4 := Lib.hid (X3.out.trans (hB4.mono X3.out.size))
      clear own4 hB4 X3 R3
      have hsm := same_any (c := c3) (c' := c4) R3'.out R4.out (runsBytes_byte _) (runsBytes_byte _)
      rw [decide_eq_true rfl] at hsm
      have HSM := Lib.hid hsm
      clear hsm
      go_wp2_with fail
      refine HSM.out.mono ?_
      rintro e w' ⟨rfl, rfl⟩
      clear HSM R3' R4
      go_wp2_with fail
      refine (deltas_any A2 n c2 l (by omega) hc2' (by unfold maxLen; omega) K.out.inI w4 (RO.out _ X4.out)).mono ?_
      rintro e w5 ⟨A5, c5, rfl, own5, hB5⟩
      have R5 := Lib.hid (Rd.of_own own5)
      have X5 := Lib.hid (X4.out.trans (hB5.mono X4.out.size))
      clear own5 hB5 X4
      go_wp2_with fail
      refine (rdeltas_any A n c l (by omega) K.out.cap K.out.max K.out.inI w5 (RL.out _ X5.out)).mono ?_
      rintro e w6 ⟨A6, c6, rfl, own6, hB6⟩
      have R6 := Lib.hid (Rd.of_own own6)
      have R5' := Lib.hid (R5.out.below hB6)
      have X6 := Lib.hid (X5.out.trans (hB6.mono X5.out.size))
      clear own6 hB6 X5 R5
      have hsm := same_any (c := c5) (c' := c6) R5'.out R6.out (runsBytes_byte _) (runsBytes_byte _)
      rw [decide_eq_true rfl] at hsm
      have HSM := Lib.hid hsm
      clear hsm
      go_wp2_with fail
      refine HSM.out.mono ?_
      rintro e w' ⟨rfl, rfl⟩
      clear HSM R5' R6
      go_wp2_with fail
      refine (bools_any A' m c' t (by omega) K'.out.cap K'.out.max w6 (RT.out _ X6.out)).mono ?_
      rintro e w7 ⟨A7, c7, rfl, own7, hB7⟩
      have R7 := Lib.hid (Rd.of_own own7)
      have X7 := Lib.hid (X6.out.trans (hB7.mono X6.out.size))
      clear own7 hB7 X6
      go_wp2_with fail
      refine (rbools_any A' m c' t (by omega) K'.out.cap K'.out.max w7 (RT.out _ X7.out)).mono ?_
      rintro e w8 ⟨A8, c8, rfl, own8, hB8⟩
      have R8 := Lib.hid (Rd.of_own own8)
      have R7' := Lib.hid (R7.out.below hB8)
      have X8 := Lib.hid (X7.out.trans (hB8.mono X7.out.size))
      clear own8 hB8 X7 R7
      have hsm := same_any (c := c7) (c' := c8) R7'.out R8.out (puts_byte _) (puts_byte _)
      rw [decide_eq_true rfl] at hsm
      have HSM := Lib.hid hsm
      clear hsm
      go_wp2_with fail
      refine HSM.out.mono ?_
      rintro e w' ⟨rfl, rfl⟩
      clear HSM R7' R8
      have hs4 := same4_any (c := c2) (c' := c) (RO.out _ X8.out) (RL.out _ X8.out) (by omega) (by omega)
      rw [decide_eq_true rfl] at hs4
      have HS4 := Lib.hid hs4
      clear hs4
      go_wp2_with fail
      refine HS4.out.mono ?_
      rintro e w9 ⟨rfl, hB9⟩
      have X9 := Lib.hid (X8.out.trans (hB9.mono X8.out.size))
      clear HS4 hB9 X8
      go_wp2_with fail
      refine (alive4_any w9).mono ?_
      rintro e w10 ⟨rfl, hB10⟩
      have X10 := Lib.hid (X9.out.trans (hB10.mono X9.out.size))
      obtain ⟨b, off, hA2, hb, hcs⟩ := (O2.out.below X10.out).at_ (Nat.succ_pos n)
      subst hA2
      have c77 : w10.cell? ⟨b, off + n, none⟩ = some (.int .i64 77) := hcs n _ (by rw [i64s_append, List.getElem?_append_right (by rw [i64s_len, K.out.len]; exact Nat.le_refl _), i64s_len, K.out.len, Nat.sub_self]; rfl)
      have FIN := Lib.hid (B2.out.trans (X10.out.mono B2.out.size))
      clear hB10 X9 hcs hb
      go_wp2_with fail
      go_ret
      exact ⟨rfl, FIN.out⟩
end Go.Proofs.Ytokpcpopibpebaa.columnPuts
