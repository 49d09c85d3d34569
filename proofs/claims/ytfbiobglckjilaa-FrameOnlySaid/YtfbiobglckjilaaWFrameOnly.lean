/-
  THE WALK OF FrameOnly.
-/
import Derived.Test.YtfbiobglckjilaaOpenB
import Derived.Test.YtfbiobglckjilaaTake
namespace Go.Proofs.Ytfbiobglckjilaa
open Go Go.RowKit
set_option linter.unusedVariables false

theorem F.cases (l : List Nat) : (F.verdict l = 1 ∧ F.tErr l = 51 ∧ F.tBody l = [] ∧ F.tLen l = 0 ∧ F.tKind l = 0) ∨ (F.verdict l = 2 ∧ F.tErr l = 52 ∧ F.tBody l = [] ∧ F.tLen l = 0 ∧ F.tKind l = 0) ∨
    (F.verdict l = 0 ∧ F.tErr l = 0 ∧ F.tBody l = F.bodyOf l ∧ F.tLen l = 11 + F.long l ∧ F.tKind l = F.kindOf l ∧ F.long l ≤ 65536 ∧ 11 + F.long l ≤ l.length ∧ F.wrap (F.kindOf l) (F.bodyOf l) = l.take (11 + F.long l)) := by
  by_cases h : F.verdict l = 0
  · right; right
    refine ⟨h, by simp [F.tErr, h], by simp [F.tBody, h], by simp [F.tLen, h], by simp [F.tKind, h], ?_⟩
    unfold F.verdict at h
    split at h
    · cases h
    split at h
    · cases h
    split at h
    · cases h
    split at h
    · rename_i h1 h2 h3 h4
      exact ⟨by omega, by omega, h4⟩
    · cases h
  · have h12 : F.verdict l = 1 ∨ F.verdict l = 2 := by
      unfold F.verdict at h ⊢
      split
      · exact .inl rfl
      split
      · exact .inl rfl
      split
      · exact .inr rfl
      split
      · rename_i h1 h2 h3 h4
        rw [if_neg h1, if_neg h2, if_neg h3, if_pos h4] at h
        exact absurd rfl h
      · exact .inl rfl
    rcases h12 with h1 | h1
    · left; exact ⟨h1, by simp [F.tErr, h1], by simp [F.tBody, h1], by simp [F.tLen, h1], by simp [F.tKind, h1]⟩
    · right; left; exact ⟨h1, by simp [F.tErr, h1], by simp [F.tBody, h1], by simp [F.tLen, h1], by simp [F.tKind, h1]⟩

set_option maxRecDepth 100000 in
set_option maxHeartbeats 1000000 in
theorem frameOnly.walk (W : World) (A : Option Addr) (n c : Nat) (l : List Nat) (k : Bytes W A n c l) :
    Calls Try.prog 7 #[.slice A n c] W fun e w' => e = .returned (.bool true) ∧ Below W.heap.size W w' := by
  have K := Lib.hid k
  have hr := k.reach
  have hcap := k.cap
  have hmax := k.max
  have hlen : l.length = n := by simpa [by8_len] using k.rd.len1
  have HL := Lib.hid hlen
  have HMX := Lib.hid hmax
  clear k hlen
  unfold maxLen at hmax
  by_cases h5000 : 5000 < n
  · go_enter Try.func7, Try.ntmps7
    go_wp2_with fail
    refine (alive_any _).mono ?_
    rintro e w4 ⟨rfl, hB4⟩
    go_wp2_with fail
    go_ret
    exact ⟨rfl, hB4⟩
  have hlt : n ≤ 1000000 := by omega
  have T := Lib.hid (take_any K.out.rd K.out.lt hlt hcap HMX.out)
  rcases F.cases l with ⟨hv, h1, h2, h3, h4⟩ | ⟨hv, h1, h2, h3, h4⟩ | ⟨hv, h1, h2, h3, h4, h5, h6, h7⟩
  · have E := Lib.hid (And.intro h1 (And.intro h2 (And.intro h3 h4)))
    clear hv h1 h2 h3 h4
    go_enter Try.func7, Try.ntmps7
    go_wp2_with fail
    refine T.out.mono ?_
    rintro e w3 ⟨A3, c3, rfl, hown3, hB3⟩
    rw [E.out.1, E.out.2.1, E.out.2.2.1, E.out.2.2.2]
    have HB3 := Lib.hid hB3
    clear hown3 hB3
    go_wp2_with fail
    refine (alive_any _).mono ?_
    rintro e w4 ⟨rfl, hB4⟩
    go_wp2_with fail
    go_ret
    exact ⟨rfl, HB3.out.trans (hB4.mono HB3.out.size)⟩
  · have E := Lib.hid (And.intro h1 (And.intro h2 (And.intro h3 h4)))
    clear hv h1 h2 h3 h4
    go_enter Try.func7, Try.ntmps7
    go_wp2_with fail
    refine T.out.mono ?_
    rintro e w3 ⟨A3, c3, rfl, hown3, hB3⟩
    rw [E.out.1, E.out.2.1, E.out.2.2.1, E.out.2.2.2]
    have HB3 := Lib.hid hB3
    clear hown3 hB3
    go_wp2_with fail
    refine (alive_any _).mono ?_
    rintro e w4 ⟨rfl, hB4⟩
    go_wp2_with fail
    go_ret
    exact ⟨rfl, HB3.out.trans (hB4.mono HB3.out.size)⟩
  · obtain ⟨N, hN⟩ : ∃ N, N = F.long l := ⟨_, rfl⟩
    rw [← hN] at h3 h5 h6 h7
    obtain ⟨kd, hkd⟩ : ∃ kd, kd = F.kindOf l := ⟨_, rfl⟩
    rw [← hkd] at h4 h7
    obtain ⟨body, hbody⟩ : ∃ body, body = F.bodyOf l := ⟨_, rfl⟩
    rw [← hbody] at h2 h7
    rw [HL.out] at h6
    have hkb : kd < 256 := by rw [hkd]; exact getD_lt K.out.lt 2
    have hb256 : ∀ x ∈ body, x < 256 := by
      intro x hx
      rw [hbody] at hx
      exact K.out.lt x (List.mem_of_mem_drop (List.mem_of_mem_take hx))
    have hbl : body.length = N := by
      rw [hbody]; unfold F.bodyOf; rw [List.length_take, List.length_drop, HL.out, ← hN]; omega
    have hcast : ((11 + N : Nat) : Int) = 11 + (N : Int) := by omega
    have E := Lib.hid (And.intro h1 (And.intro h2 (And.intro h3 h4)))
    have HBL := Lib.hid hbl
    have HBB := Lib.hid hb256
    have H7 := Lib.hid h7
    have HCA := Lib.hid hcast
    have i1 : 11 + (N : Int) ≤ (n : Int) := by omega
    have i2 : (0 : Int) ≤ 11 + (N : Int) := by omega
    have i3 : 11 + (N : Int) ≤ (c : Int) := by omega
    have i4 : (11 + (N : Int)).toNat = 11 + N := by omega
    have hd : decide (l.take (11 + N) = l.take (11 + N)) = true := by simp
    clear hv h1 h2 h3 h4 h7 hN hkd hbody hb256 hbl hcast
    go_enter Try.func7, Try.ntmps7
    go_wp2_with fail
    refine T.out.mono ?_
    rintro e w3 ⟨A3, c3, rfl, hown3, hB3⟩
    rw [E.out.2.1, HBL.out] at hown3
    rw [E.out.1, E.out.2.1, E.out.2.2.1, E.out.2.2.2, HBL.out, HCA.out]
    have R3 := Lib.hid (Rd.of_own hown3)
    have HB3 := Lib.hid hB3
    clear hown3 hB3
    go_wp2_with fail
    refine (wrap_any R3.out HBB.out h5 hkb).mono ?_
    rintro e w4 ⟨A4, c4, rfl, hown4, hB4⟩
    rw [HBL.out] at hown4 ⊢
    rw [H7.out] at hown4
    have HB4 := Lib.hid (HB3.out.trans (hB4.mono HB3.out.size))
    have R4 := Lib.hid (Rd.of_own hown4)
    clear hown4 hB4
    go_wp2_with fail
    refine (alive_any _).mono ?_
    rintro e w5 ⟨rfl, hB5⟩
    have R5 := Lib.hid ((R4.out.below hB5).more hB5.size)
    have HB5 := Lib.hid (HB4.out.trans (hB5.mono HB4.out.size))
    have hrX : Rd w5 w5.heap.size 1 A (11 + N) (by8 (l.take (11 + N))) := by
      have := ((K.out.rd.take1 (k := 11 + N) h6).below HB5.out).more HB5.out.size
      have e : (by8 l).take (11 + N) = by8 (l.take (11 + N)) := by simp [by8, List.map_take]
      rwa [e] at this
    have RX := Lib.hid hrX
    have HTB := Lib.hid (fun x (hx : x ∈ l.take (11 + N)) => K.out.lt x (List.mem_of_mem_take hx))
    clear hrX hB5 R4
    go_wp2_with fail
    refine (same_any R5.out RX.out HTB.out HTB.out).mono ?_
    rintro e w' ⟨rfl, rfl⟩
    go_wp2_with fail
    go_ret
    exact ⟨by simp, HB5.out⟩
end Go.Proofs.Ytfbiobglckjilaa
