/-
  The contracts of sort (document) and of fit's closure (program): of which sort a node is.
-/
import Derived.Test.YtcdhndhgainadaaTellF
import Derived.Test.YtcdhndhgainadaaAllowsF
namespace Go.Proofs.Ytcdhndhgainadaa
open Go Go.RowKit
set_option linter.unusedVariables false
set_option linter.unusedSimpArgs false

theorem is_list (b : ByteArray) : (b.toList == [108, 105, 115, 116]) = (kd b == .list) := by
  rcases kd_cases b with rfl | rfl | rfl | rfl | rfl | rfl | rfl | rfl | rfl | h
  case inr.inr.inr.inr.inr.inr.inr.inr.inr => rw [kd_other h]; exact (odd_of h).2.o4
  all_goals (rw [ByteArray.toList_eq]; rfl)
theorem is_table (b : ByteArray) : (b.toList == [116, 97, 98, 108, 101]) = (kd b == .table) := by
  rcases kd_cases b with rfl | rfl | rfl | rfl | rfl | rfl | rfl | rfl | rfl | h
  case inr.inr.inr.inr.inr.inr.inr.inr.inr => rw [kd_other h]; exact (odd_of h).2.o5
  all_goals (rw [ByteArray.toList_eq]; rfl)
theorem is_quote (b : ByteArray) : (b.toList == [113, 117, 111, 116, 101]) = (kd b == .quote) := by
  rcases kd_cases b with rfl | rfl | rfl | rfl | rfl | rfl | rfl | rfl | rfl | h
  case inr.inr.inr.inr.inr.inr.inr.inr.inr => rw [kd_other h]; exact (odd_of h).2.o3
  all_goals (rw [ByteArray.toList_eq]; rfl)
theorem is_head (b : ByteArray) : (b.toList == [104, 101, 97, 100]) = (kd b == .head) := by
  rcases kd_cases b with rfl | rfl | rfl | rfl | rfl | rfl | rfl | rfl | rfl | h
  case inr.inr.inr.inr.inr.inr.inr.inr.inr => rw [kd_other h]; exact (odd_of h).2.o2
  all_goals (rw [ByteArray.toList_eq]; rfl)
theorem is_para (b : ByteArray) : (b.toList == [112, 97, 114, 97]) = (kd b == .para) := by
  rcases kd_cases b with rfl | rfl | rfl | rfl | rfl | rfl | rfl | rfl | rfl | h
  case inr.inr.inr.inr.inr.inr.inr.inr.inr => rw [kd_other h]; exact (odd_of h).2.o1
  all_goals (rw [ByteArray.toList_eq]; rfl)

/-- what sort answers -/
def sortN (p k : Kd) : Int := if p.allows k then 0 else if p == .list then 1 else if p == .row then 1 else if k == .item then 2 else if k == .row then 3 else if k == .cell then 4 else 5
abbrev sOther : ByteArray := ⟨#[111, 116, 104, 101, 114]⟩
/-- what the closure answers -/
def sortS (p : Kd) (k : ByteArray) : ByteArray := if p.allows (kd k) then sNone else if p == .list then sOther else if p == .row then sOther else if p == .table then (if kd k == .cell then k else sOther) else k

set_option maxRecDepth 100000 in
set_option maxHeartbeats 1000000 in
theorem sort53_any (p k : ByteArray) (w : World) : Calls Try.prog 53 #[.string p, .string k] w fun e w' => e = .returned (.int .i64 (sortN (kd p) (kd k))) ∧ w' = w := by
  have HA := Lib.hid (rallows_any p k w)
  have t1 := is_list p
  have t2 := is_row p
  have t3 := is_item k
  have t4 := is_row k
  have t5 := is_cell k
  unfold sortN
  generalize (kd p).allows (kd k) = m at *
  generalize (kd p == Kd.list) = b1 at *
  generalize (kd p == Kd.row) = b2 at *
  generalize (kd k == Kd.item) = b3 at *
  generalize (kd k == Kd.row) = b4 at *
  generalize (kd k == Kd.cell) = b5 at *
  cases m
  case true =>
    go_enter Try.func53, Try.ntmps53
    go_wp2_with fail
    refine HA.out.mono ?_
    rintro e w1 ⟨rfl, rfl⟩
    go_wp2_with fail
    go_ret
    exact ⟨rfl, rfl⟩
  cases b1
  case true =>
    go_enter Try.func53, Try.ntmps53
    go_wp2_with fail
    refine HA.out.mono ?_
    rintro e w1 ⟨rfl, rfl⟩
    go_wp2_with fail
    go_ret
    exact ⟨rfl, rfl⟩
  cases b2
  case true =>
    go_enter Try.func53, Try.ntmps53
    go_wp2_with fail
    refine HA.out.mono ?_
    rintro e w1 ⟨rfl, rfl⟩
    go_wp2_with fail
    go_ret
    exact ⟨rfl, rfl⟩
  cases b3
  case true =>
    go_enter Try.func53, Try.ntmps53
    go_wp2_with fail
    refine HA.out.mono ?_
    rintro e w1 ⟨rfl, rfl⟩
    go_wp2_with fail
    go_ret
    exact ⟨rfl, rfl⟩
  cases b4
  case true =>
    go_enter Try.func53, Try.ntmps53
    go_wp2_with fail
    refine HA.out.mono ?_
    rintro e w1 ⟨rfl, rfl⟩
    go_wp2_with fail
    go_ret
    exact ⟨rfl, rfl⟩
  cases b5
  all_goals
    go_enter Try.func53, Try.ntmps53
    go_wp2_with fail
    refine HA.out.mono ?_
    rintro e w1 ⟨rfl, rfl⟩
    go_wp2_with fail
    go_ret
    exact ⟨rfl, rfl⟩

theorem bne_of {a : ByteArray} {l : List UInt8} {b : Bool} (h : (a.toList == l) = b) : (a.toList != l) = !b := by rw [bne, h]

set_option maxRecDepth 100000 in
set_option maxHeartbeats 1000000 in
theorem sort48_any (p k : ByteArray) (Bp : Nat) (w : World) (hp : Boxed w Bp 9 (.string p)) : Calls Try.prog 48 #[.string k, .pointer (some ⟨Bp, 0, none⟩)] w fun e w' => e = .returned (.string (sortS (kd p) k)) ∧ Below w.heap.size w w' := by
  have HA := Lib.hid (allows_any p k w)
  have t1 := is_list p
  have t2 := is_row p
  have t3 := is_table p
  have t5 := is_cell k
  have c0 := hp.cell
  have HP := Lib.hid hp
  unfold sortS
  clear hp
  generalize (kd p).allows (kd k) = m at *
  generalize (kd p == Kd.list) = b1 at *
  generalize (kd p == Kd.row) = b2 at *
  generalize (kd p == Kd.table) = b3 at *
  generalize (kd k == Kd.cell) = b5 at *
  have t6 := bne_of t5
  cases m
  case true =>
    go_enter Try.func48, Try.ntmps48
    go_wp2_with fail
    refine HA.out.mono ?_
    rintro e w1 ⟨rfl, hB⟩
    have HB := Lib.hid hB
    clear hB
    go_wp2_with fail
    go_ret
    exact ⟨rfl, HB.out⟩
  cases b1
  case true =>
    go_enter Try.func48, Try.ntmps48
    go_wp2_with fail
    refine HA.out.mono ?_
    rintro e w1 ⟨rfl, hB⟩
    have HB := Lib.hid hB
    have c1 : w1.cell? ⟨Bp, 0, none⟩ = some (.string p) := (show Boxed w1 Bp 9 (.string p) from (hB.block _ HP.out.lt).trans HP.out).cell
    clear hB
    go_wp2_with fail
    go_ret
    exact ⟨rfl, HB.out⟩
  cases b2
  case true =>
    go_enter Try.func48, Try.ntmps48
    go_wp2_with fail
    refine HA.out.mono ?_
    rintro e w1 ⟨rfl, hB⟩
    have HB := Lib.hid hB
    have c1 : w1.cell? ⟨Bp, 0, none⟩ = some (.string p) := (show Boxed w1 Bp 9 (.string p) from (hB.block _ HP.out.lt).trans HP.out).cell
    clear hB
    go_wp2_with fail
    go_ret
    exact ⟨rfl, HB.out⟩
  cases b3 <;> cases b5
  all_goals
    go_enter Try.func48, Try.ntmps48
    go_wp2_with fail
    refine HA.out.mono ?_
    rintro e w1 ⟨rfl, hB⟩
    have HB := Lib.hid hB
    have c1 : w1.cell? ⟨Bp, 0, none⟩ = some (.string p) := (show Boxed w1 Bp 9 (.string p) from (hB.block _ HP.out.lt).trans HP.out).cell
    clear hB
    go_wp2_with fail
    go_ret
    exact ⟨rfl, HB.out⟩

/-! ### the sorts -/
/-- a parent whose row is made fit -/
def Par (p : Kd) : Prop := p = .doc ∨ p = .quote ∨ p = .item ∨ p = .cell ∨ p = .list ∨ p = .row ∨ p = .table
def Srt.str : Srt → ByteArray | .stay => sNone | .other => sOther | .item => sItem | .row => sRow | .cell => sCell
def Srt.code (p : Kd) : Srt → Int | .stay => 0 | .item => 2 | .row => 3 | .cell => 4 | .other => if p = .table then 5 else 1
def fixN (p : Kd) (n : Int) : Int := if p = .table ∧ n = 2 then 5 else n
theorem kd_item {k : ByteArray} (h : kd k = .item) : k = sItem := by
  rcases kd_cases k with rfl | rfl | rfl | rfl | rfl | rfl | rfl | rfl | rfl | h1
  case inr.inr.inr.inr.inr.inr.inr.inr.inr => rw [kd_other h1] at h; cases h
  all_goals first | rfl | (exact absurd h (by decide))
theorem kd_row {k : ByteArray} (h : kd k = .row) : k = sRow := by
  rcases kd_cases k with rfl | rfl | rfl | rfl | rfl | rfl | rfl | rfl | rfl | h1
  case inr.inr.inr.inr.inr.inr.inr.inr.inr => rw [kd_other h1] at h; cases h
  all_goals first | rfl | (exact absurd h (by decide))
theorem kd_cell {k : ByteArray} (h : kd k = .cell) : k = sCell := by
  rcases kd_cases k with rfl | rfl | rfl | rfl | rfl | rfl | rfl | rfl | rfl | h1
  case inr.inr.inr.inr.inr.inr.inr.inr.inr => rw [kd_other h1] at h; cases h
  all_goals first | rfl | (exact absurd h (by decide))
theorem sortN_srt {p k : Kd} (hp : Par p) (hk : k.known = true) (hd : k ≠ .doc) : fixN p (sortN p k) = (srt p k).code p := by
  rcases hp with rfl | rfl | rfl | rfl | rfl | rfl | rfl <;> cases k <;> first | rfl | (exact absurd hk (by decide)) | (exact absurd rfl hd)
theorem sortS_srt {p : Kd} {k : ByteArray} (hp : Par p) (hk : (kd k).known = true) (hd : kd k ≠ .doc) : sortS p k = (srt p (kd k)).str := by
  by_cases h1 : kd k = .item
  · obtain rfl := kd_item h1
    rcases hp with rfl | rfl | rfl | rfl | rfl | rfl | rfl <;> rfl
  by_cases h2 : kd k = .row
  · obtain rfl := kd_row h2
    rcases hp with rfl | rfl | rfl | rfl | rfl | rfl | rfl <;> rfl
  by_cases h3 : kd k = .cell
  · obtain rfl := kd_cell h3
    rcases hp with rfl | rfl | rfl | rfl | rfl | rfl | rfl <;> rfl
  unfold sortS srt
  generalize kd k = K at *
  rcases hp with rfl | rfl | rfl | rfl | rfl | rfl | rfl <;> cases K <;> first | rfl | (exact absurd rfl h1) | (exact absurd rfl h2) | (exact absurd rfl h3) | (exact absurd hk (by decide)) | (exact absurd rfl hd)
theorem code_inj {p : Kd} {a b : Srt} (h : a.code p = b.code p) : a = b := by
  unfold Srt.code at h
  cases a <;> cases b <;> simp at h ⊢ <;> split at h <;> omega
theorem str_inj {a b : Srt} (h : a.str = b.str) : a = b := by
  cases a <;> cases b <;> first | rfl | (exact absurd h (by decide))
theorem str_beq (a b : Srt) : (a.str.toList == b.str.toList) = decide (a = b) := by
  simp only [ByteArray.toList_eq]
  cases a <;> cases b <;> rfl
end Go.Proofs.Ytcdhndhgainadaa
