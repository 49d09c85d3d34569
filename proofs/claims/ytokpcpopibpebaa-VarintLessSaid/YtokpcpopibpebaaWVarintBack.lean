/-
  THE WALK OF VarintBack.
-/
import Derived.Test.YtokpcpopibpebaaWVarintTakes
import Derived.Deep.QuietTactic
import Derived.BigQuiet
namespace Go.Proofs.Ytokpcpopibpebaa
open Go Go.RowKit

theorem run_str_drewN {w : World} {B : Nat} {A : Option Addr} {n : Nat} {l : List Nat} (h : Rd w B 1 A n (by8 l)) (c nq : Nat) :
    (convert 24 9 (.slice A n c)).run Try.prog (w.drewN nq) = .ok (.string (str8 l)) (w.drewN nq) := run_str (w := w.drewN nq) h c

theorem alive_law (W w : World) (hB : Below W.heap.size W w) : Calls Try.prog 19 #[] w fun e w' => e = .returned (.bool true) ∧ Below W.heap.size W w' :=
  (alive_any w).mono fun _ _ ⟨h1, h2⟩ => ⟨h1, hB.trans (h2.mono hB.size)⟩

theorem below_draws {B : Nat} {W w : World} (h : Below B W w) (nq : Nat) : Below B W (w.drewN nq) := ⟨h.os, h.tape, h.output, h.size, h.block⟩

/-- what stands ahead of VarintBack's last lines -/
structure BackFacts (W w : World) (A1 A2 : Option Addr) (c1 c2 n m : Nat) : Prop where
  r1 : Rd w w.heap.size 1 A1 (V.put n).length (by8 (V.put n))
  r2 : Rd w w.heap.size 1 A2 (V.put m).length (by8 (V.put m))
  below : Below W.heap.size W w
  cap : (V.put m).length ≤ c2

set_option maxRecDepth 100000 in
set_option maxHeartbeats 1000000 in
theorem varintBack.walk (W : World) (n : Nat) (hn : n < 18446744073709551616) (m : Nat) (hm : m < 18446744073709551616) (A : Option Addr) (len c : Nat) (l : List Nat) (k : Bytes W A len c l) :
    Calls Try.prog 7 #[.int .u64 n, .int .u64 m, .slice A len c] W fun e w' => e = .returned (.bool true) ∧ Below W.heap.size W w' := by
  have K := Lib.hid k
  have hr := k.reach
  have hlen : l.length = len := by simpa [by8_len] using k.rd.len1
  have HL := Lib.hid hlen
  clear k hlen
  by_cases h1000 : 1000 < len
  · clear hn hm
    go_enter Try.func7, Try.ntmps7
    go_wp2_with fail
    refine (alive_any _).mono ?_
    rintro e w4 ⟨rfl, hB4⟩
    go_wp2_with fail
    go_ret
    exact ⟨rfl, hB4⟩
  · have C1 := Lib.hid (fun w => put_any n w hn)
    have C2 := Lib.hid (fun w => put_any m w hm)
    have p10 := V.put_length_ten hn
    have q10 := V.put_length_ten hm
    have p1 := V.put_length_pos n
    have HT := Lib.hid (V.take_put n l hn)
    have HB := Lib.hid (fun rest h => V.put_begins n m rest h hm hn)
    clear hn hm
    go_enter Try.func7, Try.ntmps7
    go_wp2_with fail
    refine (C1.out _).mono ?_
    rintro e w1 ⟨A1, c1, rfl, hown1, hB1⟩
    have R1 := Lib.hid (Rd.of_own hown1)
    clear hown1
    go_wp2_with fail
    refine (C2.out _).mono ?_
    rintro e w2 ⟨A2, c2, rfl, hown2, hB2⟩
    have hc2 : (V.put m).length ≤ c2 := by
      obtain ⟨A', c', hv, h1, h2⟩ := own_slice hown2
      injection hv with _ _ hc
      omega
    have R2 := Lib.hid (Rd.of_own hown2)
    have R1' := Lib.hid (R1.out.below hB2)
    clear hown2 R1
    have HB2 := Lib.hid (hB1.trans (hB2.mono hB1.size))
    have hs := hB2.size
    have hs1 := hB1.size
    clear hB1 hB2
    go_wp2_with (at_builtin; refine wpList_app _ rfl (.tmp 25) (.tmp 26) 24 rfl w2 w2.heap.size 5 (.int .u8 0) 1 1 Try.underlying24 info5 rfl (by decide) _ 0 [] rfl (own_empty w2 _ 5 1 (Nat.le_refl _)) w1.heap.size A1 _ c1 (by8 (V.put n)) rfl (R1'.out.alloc hs _) (by8_one _) (by unfold maxLen; omega) (by omega) ((Below.refl _ _).alloc (Nat.le_refl _) _) (Nat.le_refl _) ?_)
    intro A3 c3 w3 hown3 hg3 hB3
    clear hg3
    have RM := Lib.hid (((K.out.rd.below HB2.out).more HB2.out.size).below hB3)
    go_wp2_with (at_builtin; refine wpList_app _ rfl (.tmp 27) (.tmp 28) 24 rfl w2 w2.heap.size 5 (.int .u8 0) 1 1 Try.underlying24 info5 rfl (by decide) _ _ _ rfl hown3 w2.heap.size A len c (by8 l) rfl RM.out (by8_one _) (by unfold maxLen; omega) (by omega) hB3 (Nat.le_refl _) ?_)
    intro A4 c4 w4 hown4 hg4 hB4
    rw [← by8_append] at hown4
    have R4 := Lib.hid (Rd.of_own hown4)
    clear hown4 hg4 hown3 hB3 RM
    have F : Hid (BackFacts W w4 A1 A2 c1 c2 n m) := Lib.hid ⟨(R1'.out.below (hB4.mono hs)).more (Nat.le_trans hs hB4.size), (R2.out.below hB4).more hB4.size, HB2.out.trans (hB4.mono HB2.out.size), hc2⟩
    clear R1' R2 HB2 hs hs1 hB4
    go_wp2_with fail
    have hby : ∀ x ∈ V.put n ++ l, x < 256 := by
      intro x hx
      rcases List.mem_append.1 hx with h | h
      · exact V.put_byte n x h
      · exact K.out.lt x h
    refine (take_any R4.out hby (by unfold maxLen; omega)).mono ?_
    rintro e w' ⟨rfl, rfl⟩
    obtain ⟨e1, e2, e3⟩ := T_some HT.out
    rw [e1, e2, e3]
    clear e1 e2 e3 hby R4
    have g0 : ((n : Int) == (n : Int)) = true := by simp
    have g1 : (((V.put n).length : Int) == ((V.put n).length : Int)) = true := by simp
    by_cases hq : (V.put n).length ≤ (V.put m).length
    · have gq : decide (((V.put n).length : Int) ≤ ((V.put m).length : Int)) = true := by simpa using hq
      have k1 := run_str_drewN F.out.r1 c1
      have hr2 := F.out.r2.take1 (k := (V.put n).length) hq
      have htk : (by8 (V.put m)).take (V.put n).length = by8 ((V.put m).take (V.put n).length) := by simp [by8, List.map_take]
      rw [htk] at hr2
      have k2 := run_str_drewN hr2 c2
      have hbq := str8_beq (l := (V.put m).take (V.put n).length) (fun y hy => V.put_byte m y (List.mem_of_mem_take hy)) (V.put_byte n)
      clear htk hr2
      by_cases he : (V.put m).take (V.put n).length = V.put n
      · have g : ((str8 ((V.put m).take (V.put n).length)).toList == (str8 (V.put n)).toList) = true := by rw [hbq]; simpa using he
        have hmn : m = n := HB.out ((V.put m).drop (V.put n).length) (by conv => lhs; rw [← List.take_append_drop (V.put n).length (V.put m), he])
        have gnm : ((n : Int) == (m : Int)) = true := by simp [hmn]
        clear hbq he hmn
        go_wp2_with fail
        go_quiet (fail)
        go_wp2_with fail
        refine (alive_law W _ (below_draws F.out.below nq)).mono ?_
        rintro e w5 ⟨rfl, hB5⟩
        go_wp2_with fail
        go_ret
        exact ⟨by simp, hB5⟩
      · have g : ((str8 ((V.put m).take (V.put n).length)).toList == (str8 (V.put n)).toList) = false := by rw [hbq]; simpa using he
        have gnm : ((n : Int) == (m : Int)) = false := by
          have : ¬ n = m := fun h => he (by rw [h]; simp)
          simpa using (by omega : ¬ (n : Int) = m)
        clear hbq he
        go_wp2_with fail
        go_quiet (fail)
        go_wp2_with fail
        refine (alive_law W _ (below_draws F.out.below nq)).mono ?_
        rintro e w5 ⟨rfl, hB5⟩
        go_wp2_with fail
        go_ret
        exact ⟨by simp, hB5⟩
    · have gq : decide ((V.put n).length ≤ (V.put m).length) = false := by simpa using hq
      have gnm : ((n : Int) == (m : Int)) = false := by
        have : ¬ n = m := fun h => hq (by rw [h]; exact Nat.le_refl _)
        simpa using (by omega : ¬ (n : Int) = m)
      clear hq
      go_wp2_with fail
      go_quiet (fail)
      go_wp2_with fail
      refine (alive_law W _ (below_draws F.out.below nq)).mono ?_
      rintro e w5 ⟨rfl, hB5⟩
      go_wp2_with fail
      go_ret
      exact ⟨by simp, hB5⟩
end Go.Proofs.Ytokpcpopibpebaa
