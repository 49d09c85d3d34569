/-
  THE WALK OF FrameTakes.
-/
import Derived.Test.YtfbiobglckjilaaOpenB
import Derived.Test.YtfbiobglckjilaaRTake
namespace Go.Proofs.Ytfbiobglckjilaa
open Go Go.RowKit
set_option linter.unusedVariables false

theorem tBody_lt {l : List Nat} (h : ∀ x ∈ l, x < 256) : ∀ x ∈ F.tBody l, x < 256 := by
  intro x hx
  unfold F.tBody at hx
  split at hx
  · exact h x (List.mem_of_mem_drop (List.mem_of_mem_take hx))
  · cases hx

set_option maxRecDepth 100000 in
set_option maxHeartbeats 1000000 in
theorem frameTakes.walk (W : World) (A : Option Addr) (n c : Nat) (l : List Nat) (k : Bytes W A n c l) :
    Calls Try.prog 5 #[.slice A n c] W fun e w' => e = .returned (.bool true) ∧ Below W.heap.size W w' := by
  have K := Lib.hid k
  have hr := k.reach
  have hcap := k.cap
  have hmax := k.max
  have hlen : l.length = n := by simpa [by8_len] using k.rd.len1
  have HL := Lib.hid hlen
  have HMX := Lib.hid hmax
  clear k hlen
  unfold maxLen at hmax
  by_cases h5000 : 5000 < n
  · go_enter Try.func5, Try.ntmps5
    go_wp2_with fail
    refine (alive_any _).mono ?_
    rintro e w4 ⟨rfl, hB4⟩
    go_wp2_with fail
    go_ret
    exact ⟨rfl, hB4⟩
  go_enter Try.func5, Try.ntmps5
  go_wp2_with (at_builtin; refine wpList_app _ rfl (.tmp 18) (.tmp 19) 22 rfl W W.heap.size 5 (.int .u8 0) 1 1 Try.underlying22 info5 rfl (by decide) _ 0 [] rfl (own_empty W _ 5 1 (Nat.le_refl _)) W.heap.size A n c (by8 l) rfl (K.out.rd.alloc (Nat.le_refl _) _) (by8_one l) (by unfold maxLen; omega) (by omega) ((Below.refl _ _).alloc (Nat.le_refl _) _) (Nat.le_refl _) ?_)
  intro A1 c1 w1 hown1 hg1 hB1
  clear hg1
  go_wp2_with (at_builtin; refine wpList_app1 _ rfl (.tmp 20) (.tmp 21) 22 rfl W W.heap.size 5 (.int .u8 0) 1 Try.underlying22 info5 rfl w1 _ rfl rfl _ _ _ rfl hown1 rfl (by unfold maxLen; omega) (by omega) hB1 (Nat.le_refl _) ?_)
  intro A2 c2 w2 hown2 hg2 hB2
  clear hg2 hown1 hB1
  obtain ⟨g, cc, hv, hg, _⟩ := hown2.form (by omega)
  injection hv with hA hn hc
  subst hA hc
  have O : Hid (OwnCopy w2 g n c2 l) := Lib.hid ⟨own_base hown2 (Nat.zero_le _), HL.out⟩
  have hcc := O.out.cap.1
  have hcm := O.out.cap.2
  have HCM := Lib.hid hcm
  unfold maxLen at hcm
  clear hown2
  have RB := Lib.hid ((K.out.rd.below hB2).more hB2.size)
  have RO := Lib.hid O.out.rd
  have hlt : n ≤ 1000000 := by omega
  go_wp2_with fail
  refine (take_any RO.out K.out.lt hlt (by omega) HCM.out).mono ?_
  rintro e w3 ⟨A3, c3, rfl, hown3, hB3⟩
  have R3 := Lib.hid (Rd.of_own hown3)
  have HB3 := Lib.hid hB3
  have RB3 := Lib.hid ((RB.out.below hB3).more hB3.size)
  have RO3 := Lib.hid (RO.out.below hB3)
  clear hown3 hB3
  obtain ⟨bn, hbn⟩ : ∃ bn, bn = (F.tBody l).length := ⟨_, rfl⟩
  obtain ⟨tk, htk⟩ : ∃ tk, tk = F.tKind l := ⟨_, rfl⟩
  obtain ⟨tl, htl⟩ : ∃ tl, tl = F.tLen l := ⟨_, rfl⟩
  obtain ⟨te, hte⟩ : ∃ te, te = F.tErr l := ⟨_, rfl⟩
  rw [← hbn] at R3
  rw [← hbn, ← htk, ← htl, ← hte]
  have E := Lib.hid (And.intro hbn (And.intro htk (And.intro htl hte)))
  clear hbn htk htl hte
  go_wp2_with fail
  refine (rtake_any RB3.out K.out.lt hlt hcap HMX.out).mono ?_
  rintro e w4 ⟨A4, c4, rfl, hown4, hB4⟩
  rw [← E.out.1] at hown4
  rw [← E.out.1, ← E.out.2.1, ← E.out.2.2.1, ← E.out.2.2.2]
  have R4 := Lib.hid (Rd.of_own hown4)
  have R34 := Lib.hid (R3.out.below hB4)
  have RB4 := Lib.hid (RB3.out.below hB4)
  have RO4 := Lib.hid (RO3.out.below (hB4.mono HB3.out.size))
  have HB4 := Lib.hid (HB3.out.trans (hB4.mono HB3.out.size))
  have HWB := Lib.hid (tBody_lt K.out.lt)
  have hd : decide (F.tBody l = F.tBody l) = true := by simp
  have hd2 : decide (l = l) = true := by simp
  have g1 : ((tk : Int) == (tk : Int)) = true := by simp
  have g2 : ((tl : Int) == (tl : Int)) = true := by simp
  have g3 : (te == te) = true := by simp
  clear hown4 hB4
  go_wp2_with fail
  refine (same_any R34.out R4.out HWB.out HWB.out).mono ?_
  rintro e w' ⟨rfl, rfl⟩
  go_wp2_with fail
  refine (same_any RO4.out RB4.out K.out.lt K.out.lt).mono ?_
  rintro e w' ⟨rfl, rfl⟩
  go_wp2_with fail
  refine (alive_any _).mono ?_
  rintro e w5 ⟨rfl, hB5⟩
  go_wp2_with fail
  go_ret
  exact ⟨by simp, hB2.trans ((HB4.out.mono hB2.size).trans (hB5.mono (Nat.le_trans hB2.size HB4.out.size)))⟩
end Go.Proofs.Ytfbiobglckjilaa
