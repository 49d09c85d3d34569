/-
  THE WALK OF FrameSums.
-/
import Derived.Test.YtfbiobglckjilaaOpenB
namespace Go.Proofs.Ytfbiobglckjilaa
open Go Go.RowKit

set_option maxRecDepth 100000 in
set_option maxHeartbeats 1000000 in
theorem frameSums.walk (W : World) (A : Option Addr) (n c : Nat) (l : List Nat) (k : Bytes W A n c l) :
    Calls Try.prog 3 #[.slice A n c] W fun e w' => e = .returned (.bool true) ∧ Below W.heap.size W w' := by
  have K := Lib.hid k
  have hr := k.reach
  have hcap := k.cap
  have hmax := k.max
  have hlen : l.length = n := by simpa [by8_len] using k.rd.len1
  have HL := Lib.hid hlen
  clear k hlen
  unfold maxLen at hmax
  by_cases h5000 : 5000 < n
  · go_enter Try.func3, Try.ntmps3
    go_wp2_with fail
    refine (alive_any _).mono ?_
    rintro e w4 ⟨rfl, hB4⟩
    go_wp2_with fail
    go_ret
    exact ⟨rfl, hB4⟩
  go_enter Try.func3, Try.ntmps3
  go_wp2_with (at_builtin; refine wpList_app _ rfl (.tmp 10) (.tmp 11) 22 rfl W W.heap.size 5 (.int .u8 0) 1 1 Try.underlying22 info5 rfl (by decide) _ 0 [] rfl (own_empty W _ 5 1 (Nat.le_refl _)) W.heap.size A n c (by8 l) rfl (K.out.rd.alloc (Nat.le_refl _) _) (by8_one l) (by unfold maxLen; omega) (by omega) ((Below.refl _ _).alloc (Nat.le_refl _) _) (Nat.le_refl _) ?_)
  intro A1 c1 w1 hown1 hg1 hB1
  clear hg1
  go_wp2_with (at_builtin; refine wpList_app1 _ rfl (.tmp 12) (.tmp 13) 22 rfl W W.heap.size 5 (.int .u8 0) 1 Try.underlying22 info5 rfl w1 _ rfl rfl _ _ _ rfl hown1 rfl (by unfold maxLen; omega) (by omega) hB1 (Nat.le_refl _) ?_)
  intro A2 c2 w2 hown2 hg2 hB2
  clear hg2 hown1 hB1
  obtain ⟨g, cc, hv, hg, _⟩ := hown2.form (by omega)
  injection hv with hA hn hc
  subst hA hc
  have O : Hid (OwnCopy w2 g n c2 l) := Lib.hid ⟨own_base hown2 (Nat.zero_le _), HL.out⟩
  have hcc := O.out.cap.1
  have hcm := O.out.cap.2
  unfold maxLen at hcm
  clear hown2
  have RB := Lib.hid ((K.out.rd.below hB2).more hB2.size)
  go_wp2_with fail
  refine (sum_any O.out.rd K.out.lt (by unfold maxLen; omega)).mono ?_
  rintro e w3 ⟨rfl, hB3⟩
  go_wp2_with fail
  have r1 := O.out.rd.below hB3
  have r2 := RB.out.below hB3
  refine (same_any r1 r2 K.out.lt K.out.lt).mono ?_
  rintro e w' ⟨rfl, rfl⟩
  clear r1 r2
  have hd : decide (l = l) = true := by simp
  go_wp2_with fail
  refine (alive_any _).mono ?_
  rintro e w4 ⟨rfl, hB4⟩
  have hlast : w4.cell? ⟨g, n, none⟩ = some (.int .u8 77) := by
    rw [hB4.cell (p := ⟨g, n, none⟩) (Nat.lt_of_lt_of_le O.out.lt hB3.size), hB3.cell (p := ⟨g, n, none⟩) O.out.lt]
    exact O.out.last
  have R5 := Lib.hid ((RB.out.below hB3).below (hB4.mono hB3.size))
  go_wp2_with fail
  refine (rsum_any R5.out K.out.lt (by unfold maxLen; omega)).mono ?_
  rintro e w' ⟨rfl, rfl⟩
  have gs : ((F.sum l : Nat) : Int) == ((F.sum l : Nat) : Int) := by simp
  go_wp2_with fail
  go_ret
  exact ⟨by simp, hB2.trans ((hB3.mono hB2.size).trans (hB4.mono (Nat.le_trans hB2.size hB3.size)))⟩
end Go.Proofs.Ytfbiobglckjilaa
