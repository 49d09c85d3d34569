/-
  THE WALK OF FrameBack.
-/
import Derived.Test.YtfbiobglckjilaaOpenF
import Derived.Test.YtfbiobglckjilaaTake
import Derived.Test.YtfbiobglckjilaaBackLaw
namespace Go.Proofs.Ytfbiobglckjilaa
open Go Go.RowKit
set_option linter.unusedVariables false

theorem TakeRet.wrapped {k n : Nat} {b more : List Nat} {w w' : World} {e : Ending} (h : TakeRet (F.wrap k b ++ more) w e w') (hn : b.length = n) (hle : n ≤ 65536) :
    ∃ A c, e = .returned (.tuple #[.int .u8 (k : Nat), .slice A n c, .int .i64 (11 + (n : Int)), .int .i64 0]) ∧ Rd w' w'.heap.size 1 A n (by8 b) ∧ Below w.heap.size w w' := by
  obtain ⟨A, c, rfl, hown, hB⟩ := h
  subst hn
  have hv := F.verdict_wrap (k := k) (b := b) (more := more) hle
  have e1 : F.tBody (F.wrap k b ++ more) = b := by simp [F.tBody, hv, F.body_wrap (k := k) (b := b) (more := more) (by omega)]
  have e2 : F.tKind (F.wrap k b ++ more) = k := by simp [F.tKind, hv, F.kind_wrap]
  have e3 : F.tLen (F.wrap k b ++ more) = 11 + b.length := by simp [F.tLen, hv, F.long_wrap (k := k) (b := b) (more := more) (by omega)]
  have e4 : F.tErr (F.wrap k b ++ more) = 0 := by simp [F.tErr, hv]
  have e5 : ((11 + b.length : Nat) : Int) = 11 + (b.length : Int) := by omega
  rw [e1] at hown
  refine ⟨A, c, by rw [e1, e2, e3, e4, e5], Rd.of_own hown, hB⟩

theorem TakeRet.cut {k m : Nat} {b : List Nat} {w w' : World} {e : Ending} (h : TakeRet ((F.wrap k b).take m) w e w') (hle : b.length ≤ 65536) (hm : m < 11 + b.length) :
    ∃ A c, e = .returned (.tuple #[.int .u8 0, .slice A 0 c, .int .i64 0, .int .i64 52]) ∧ Below w.heap.size w w' := by
  obtain ⟨A, c, rfl, hown, hB⟩ := h
  have hv := F.verdict_cut (k := k) hle hm
  refine ⟨A, c, ?_, hB⟩
  simp [F.tBody, F.tKind, F.tLen, F.tErr, hv]

/-- Wrap's answer, read -/
theorem WrapRet.read {kind n : Nat} {l : List Nat} {w w' : World} {e : Ending} (h : WrapRet kind l w e w') (hn : l.length = n) :
    ∃ g c, e = .returned (.tuple #[.slice (some ⟨g, 0, none⟩) (11 + n) c, .int .i64 0]) ∧ w.heap.size ≤ g ∧ Row w' g (11 + n) c (F.wrap kind l) ∧ 11 + n ≤ c ∧ c ≤ maxLen ∧ Below w.heap.size w w' := by
  obtain ⟨A, c, rfl, hown, hB⟩ := h
  subst hn
  obtain ⟨A', c', hv, h1, h2⟩ := own_slice hown
  injection hv with hA _ hc
  subst hA hc
  obtain ⟨g, rfl, hg, hrow⟩ := row_of_own hown (by omega)
  exact ⟨g, c, rfl, hg, hrow, h1, h2, hB⟩

set_option maxRecDepth 100000 in
set_option maxHeartbeats 1000000 in
theorem frameBack.walk (W : World) (K : Nat) (A : Option Addr) (n c : Nat) (l : List Nat) (A' : Option Addr) (n' c' : Nat) (l' : List Nat) (cut : Int) (k : FramedIn W K A n c l A' n' c' l' cut) :
    Calls Try.prog 6 #[.agg #[.int .u8 (K : Nat), .slice A n c, .slice A' n' c', .int .i64 cut]] W fun e w' => e = .returned (.bool true) ∧ Below W.heap.size W w' := by
  have B := Lib.hid k.body
  have M := Lib.hid k.more
  have hK := k.kind
  have hcl := k.lo
  have hch := k.hi
  have HL := Lib.hid (show l.length = n by simpa [by8_len] using k.body.rd.len1)
  have HL' := Lib.hid (show l'.length = n' by simpa [by8_len] using k.more.rd.len1)
  clear k
  by_cases h5 : 5000 < n
  · clear hcl hch
    go_enter Try.func6, Try.ntmps6
    go_wp2_with fail
    refine (alive_any _).mono ?_
    rintro e w4 ⟨rfl, hB4⟩
    go_wp2_with fail
    go_ret
    exact ⟨rfl, ((Below.refl _ W).alloc (Nat.le_refl _) _).trans (hB4.mono (by simp))⟩
  by_cases h5' : 5000 < n'
  · clear hcl hch
    go_enter Try.func6, Try.ntmps6
    go_wp2_with fail
    refine (alive_any _).mono ?_
    rintro e w4 ⟨rfl, hB4⟩
    go_wp2_with fail
    go_ret
    exact ⟨rfl, ((Below.refl _ W).alloc (Nat.le_refl _) _).trans (hB4.mono (by simp))⟩
  have HCL := Lib.hid hcl
  have HCH := Lib.hid hch
  clear hcl hch
  have hle : n ≤ 65536 := by omega
  go_enter Try.func6, Try.ntmps6
  go_wp2_with fail
  refine (wrap_any ((B.out.rd.alloc (Nat.le_refl _) _).more (by simp)) B.out.lt hle hK).mono ?_
  intro e w3 hw3
  obtain ⟨g, c3, rfl, hg, hrow, hc3, hm3, hB3⟩ := hw3.read HL.out
  clear hw3
  have HB3 : Hid (Below W.heap.size W w3) := Lib.hid (((Below.refl _ W).alloc (Nat.le_refl _) _).trans (hB3.mono (by simp)))
  have R3 := Lib.hid hrow.rd
  have HC3 := Lib.hid hc3
  have HM3 := Lib.hid hm3
  have i1 : ((11 + n : Nat) : Int) = 11 + (n : Int) := by omega
  have i2 : ((11 + n : Nat) : Int) == 11 + (n : Int) := by simp [i1]
  have i3 : (((11 + n : Nat) : Int) != 11 + (n : Int)) = false := by simp [i1]
  clear hB3 hg hrow hc3 hm3
  go_wp2_with (at_builtin; refine wpList_app _ rfl (.tmp 52) (.tmp 53) 22 rfl w3 w3.heap.size 5 (.int .u8 0) 1 1 Try.underlying22 info5 rfl (by decide) _ 0 [] rfl (own_empty w3 _ 5 1 (Nat.le_refl _)) w3.heap.size (some ⟨g, 0, none⟩) (11 + n) c3 (by8 (F.wrap K l)) rfl (R3.out.alloc (Nat.le_refl _) _) (by8_one _) (by unfold maxLen; omega) (by omega) ((Below.refl _ _).alloc (Nat.le_refl _) _) (Nat.le_refl _) ?_)
  intro A4 c4 w4 hown4 hg4 hB4
  clear hg4
  have M4 := Lib.hid ((M.out.rd.below HB3.out).below (hB4.mono HB3.out.size))
  go_wp2_with (at_builtin; refine wpList_app _ rfl (.tmp 54) (.tmp 55) 22 rfl w3 w3.heap.size 5 (.int .u8 0) 1 1 Try.underlying22 info5 rfl (by decide) _ _ _ rfl hown4 W.heap.size A' n' c' (by8 l') rfl M4.out (by8_one _) (by unfold maxLen; omega) (by omega) hB4 (Nat.le_refl _) ?_)
  intro A5 c5 w5 hown5 hg5 hB5
  rw [← by8_append] at hown5
  have hcap5 : 11 + n + n' ≤ c5 ∧ c5 ≤ maxLen := by
    obtain ⟨A', c', hv, h1, h2⟩ := own_slice hown5
    injection hv with hA _ hc
    subst hA hc
    exact ⟨h1, h2⟩
  have C5 := Lib.hid hcap5
  have R5 := Lib.hid (Rd.of_own hown5)
  have HB5 := Lib.hid (HB3.out.trans (hB5.mono HB3.out.size))
  have R35 := Lib.hid ((R3.out.below hB5).more hB5.size)
  clear hown4 hB4 hown5 hg5 hB5 hcap5 M4
  have hwb : ∀ x ∈ F.wrap K l ++ l', x < 256 := by
    intro x hx
    rcases List.mem_append.1 hx with h1 | h1
    · exact F.wrap_byte hK B.out.lt x h1
    · exact M.out.lt x h1
  have HWB := Lib.hid hwb
  clear hwb
  go_wp2_with fail
  refine (take_any R5.out HWB.out (by omega) C5.out.1 C5.out.2).mono ?_
  intro e w6 hw6
  obtain ⟨A6, c6, rfl, hr6, hB6⟩ := hw6.wrapped HL.out hle
  have R6 := Lib.hid hr6
  have HB6 := Lib.hid (HB5.out.trans (hB6.mono HB5.out.size))
  have R36 := Lib.hid ((R35.out.below hB6).more hB6.size)
  have BD6 := Lib.hid ((B.out.rd.below HB6.out).more HB6.out.size)
  clear hw6 hr6 hB6 R5 R35 C5 HWB
  have hd : decide (l = l) = true := by simp
  go_wp2_with fail
  refine (same_any R6.out BD6.out B.out.lt B.out.lt).mono ?_
  rintro e w' ⟨rfl, rfl⟩
  clear R6 BD6
  obtain ⟨q, hq⟩ : ∃ q : Nat, (cut < 0 ∧ -(cut + 1) = (q : Int) ∧ q < 9223372036854775808) ∨ (0 ≤ cut ∧ cut = (q : Int) ∧ q < 9223372036854775808) := by
    have h1 := HCL.out
    have h2 := HCH.out
    by_cases h0 : cut < 0
    · exact ⟨(-(cut + 1)).toNat, .inl ⟨h0, by omega, by omega⟩⟩
    · exact ⟨cut.toNat, .inr ⟨by omega, by omega, by omega⟩⟩
  obtain ⟨m, hm⟩ : ∃ m, m = q % (11 + n) := ⟨_, rfl⟩
  have hml : m < 11 + n := by rw [hm]; exact Nat.mod_lt _ (by omega)
  have hrem : Int.tmod (q : Int) (11 + (n : Int)) = (m : Int) := by
    rw [hm]
    have e : (11 + (n : Int)) = ((11 + n : Nat) : Int) := by omega
    rw [e]
    simp [Int.tmod]
  have hbm : by8 ((F.wrap K l).take m) = (by8 (F.wrap K l)).take m := by simp [by8, List.map_take]
  have hr6m : Rd w6 w6.heap.size 1 (some ⟨g, 0, none⟩) m (by8 ((F.wrap K l).take m)) := by
    rw [hbm]; exact R36.out.take1 (by omega)
  have R6M := Lib.hid hr6m
  have HTB := Lib.hid (fun x (hx : x ∈ (F.wrap K l).take m) => F.wrap_byte hK B.out.lt x (List.mem_of_mem_take hx))
  have T7 := Lib.hid ((take_any (c := c3) R6M.out HTB.out (by omega) (Nat.le_trans (by omega) HC3.out) HM3.out).mono fun _ _ h => h.cut (k := K) (b := l) (by rw [HL.out]; exact hle) (by rw [HL.out]; exact hml))
  have j1 : (m : Int) ≤ (c3 : Int) := by have := HC3.out; omega
  have j2 : ¬ (11 + (n : Int)) = 0 := by omega
  have HML := Lib.hid hml
  clear hm hbm hr6m hml
  rcases hq with ⟨h0, hq, hql⟩ | ⟨h0, hq, hql⟩
  · have hu : IntKind.i64.wrap (cut + 1) = cut + 1 := IntWalk.i64_in _ (by have := HCL.out; omega)
    have hu2 : wrap64 (q : Int) = (q : Int) := IntWalk.wrap64_in _ (by omega)
    clear hql
    go_wp2_with fail
    refine T7.out.mono ?_
    rintro e w7 ⟨A7, c7, rfl, hB7⟩
    have HB7 := Lib.hid (HB6.out.trans (hB7.mono HB6.out.size))
    clear hB7
    go_wp2_with fail
    refine (alive_any _).mono ?_
    rintro e w8 ⟨rfl, hB8⟩
    go_wp2_with fail
    go_ret
    exact ⟨by simp, HB7.out.trans (hB8.mono HB7.out.size)⟩
  · have hrem2 : Int.tmod cut (11 + (n : Int)) = (m : Int) := by rw [hq]; exact hrem
    have hnl : ¬ (cut < 0) := by omega
    clear hql h0 hrem hq
    go_wp2_with fail
    refine T7.out.mono ?_
    rintro e w7 ⟨A7, c7, rfl, hB7⟩
    have HB7 := Lib.hid (HB6.out.trans (hB7.mono HB6.out.size))
    clear hB7
    go_wp2_with fail
    refine (alive_any _).mono ?_
    rintro e w8 ⟨rfl, hB8⟩
    go_wp2_with fail
    go_ret
    exact ⟨by simp, HB7.out.trans (hB8.mono HB7.out.size)⟩
end Go.Proofs.Ytfbiobglckjilaa
