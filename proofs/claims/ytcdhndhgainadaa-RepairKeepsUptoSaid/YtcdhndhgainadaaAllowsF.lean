/-
  The contracts of Allows and Holds, on both sides.
-/
import Derived.Test.YtcdhndhgainadaaKindF
namespace Go.Proofs.Ytcdhndhgainadaa
open Go Go.RowKit
set_option linter.unusedVariables false

theorem is_item (b : ByteArray) : (b.toList == [105, 116, 101, 109]) = (kd b == .item) := by
  rcases kd_cases b with rfl | rfl | rfl | rfl | rfl | rfl | rfl | rfl | rfl | h
  case inr.inr.inr.inr.inr.inr.inr.inr.inr => rw [kd_other h]; exact (odd_of h).2.o6
  all_goals (rw [ByteArray.toList_eq]; rfl)
theorem is_row (b : ByteArray) : (b.toList == [114, 111, 119]) = (kd b == .row) := by
  rcases kd_cases b with rfl | rfl | rfl | rfl | rfl | rfl | rfl | rfl | rfl | h
  case inr.inr.inr.inr.inr.inr.inr.inr.inr => rw [kd_other h]; exact (odd_of h).2.o7
  all_goals (rw [ByteArray.toList_eq]; rfl)
theorem is_cell (b : ByteArray) : (b.toList == [99, 101, 108, 108]) = (kd b == .cell) := by
  rcases kd_cases b with rfl | rfl | rfl | rfl | rfl | rfl | rfl | rfl | rfl | h
  case inr.inr.inr.inr.inr.inr.inr.inr.inr => rw [kd_other h]; exact (odd_of h).2.o8
  all_goals (rw [ByteArray.toList_eq]; rfl)
theorem is_doc (b : ByteArray) : (b.toList == [100, 111, 99]) = (kd b == .doc) := by
  rcases kd_cases b with rfl | rfl | rfl | rfl | rfl | rfl | rfl | rfl | rfl | h
  case inr.inr.inr.inr.inr.inr.inr.inr.inr => rw [kd_other h]; exact (odd_of h).2.o9
  all_goals (rw [ByteArray.toList_eq]; rfl)
theorem ret_bool {a b : Bool} (h : a = b) : Ending.returned (.bool a) = .returned (.bool b) := by rw [h]

set_option maxRecDepth 100000 in
set_option maxHeartbeats 1000000 in
theorem holds_any (a : ByteArray) (w : World) : Calls Try.prog 17 #[.string a] w fun e w' => e = .returned (.bool (kd a).holds) ∧ Below w.heap.size w w' := by
  have HC := Lib.hid (class_any a w)
  generalize kd a = K at *
  go_enter Try.func17, Try.ntmps17
  go_wp2_with fail
  refine HC.out.mono ?_
  rintro e w' ⟨rfl, hB⟩
  have HB := Lib.hid hB
  clear hB
  unfold cls
  go_wp2_with fail
  go_ret
  refine ⟨rfl, ?_⟩
  have hB := HB.out
  repeat (first | exact hB | refine Below.alloc ?_ (by first | exact hB.size | simp) _ | refine Below.setCell ?_ (by first | exact hB.size | simp) _)

set_option maxRecDepth 100000 in
set_option maxHeartbeats 1000000 in
theorem allows_any (a b : ByteArray) (w : World) : Calls Try.prog 15 #[.string a, .string b] w fun e w' => e = .returned (.bool ((kd a).allows (kd b))) ∧ Below w.heap.size w w' := by
  have HC := Lib.hid (class_any a w)
  generalize kd a = K at *
  unfold cls at HC
  cases K <;> simp only [Kd.under, Kd.needs, Kd.holds, Kd.known] at HC
  case para | head | other =>
    go_enter Try.func15, Try.ntmps15
    go_wp2_with fail
    refine HC.out.mono ?_
    rintro e w' ⟨rfl, hB⟩
    have HB := Lib.hid hB
    clear hB HC
    have fin : ∀ wz, Below w.heap.size w' wz → Below w.heap.size w wz := fun wz h => HB.out.trans h
    have FIN := Lib.hid fin
    have hsz : w.heap.size ≤ w'.heap.size := HB.out.size
    have HSZ := Lib.hid hsz
    clear fin hsz HB
    go_wp2_with fail
    go_ret
    refine ⟨rfl, FIN.out _ ?_⟩
    repeat (first | exact Below.refl _ _ | refine Below.alloc ?_ (by first | exact HSZ.out | simp) _ | refine Below.setCell ?_ (by first | exact HSZ.out | simp) _)
  case list =>
    go_enter Try.func15, Try.ntmps15
    go_wp2_with fail
    refine HC.out.mono ?_
    rintro e w' ⟨rfl, hB⟩
    have HB := Lib.hid hB
    clear hB HC
    have fin : ∀ wz, Below w.heap.size w' wz → Below w.heap.size w wz := fun wz h => HB.out.trans h
    have FIN := Lib.hid fin
    have hsz : w.heap.size ≤ w'.heap.size := HB.out.size
    have HSZ := Lib.hid hsz
    clear fin hsz HB
    go_wp2_with fail
    go_ret
    refine ⟨ret_bool (is_item b), FIN.out _ ?_⟩
    repeat (first | exact Below.refl _ _ | refine Below.alloc ?_ (by first | exact HSZ.out | simp) _ | refine Below.setCell ?_ (by first | exact HSZ.out | simp) _)
  case table =>
    go_enter Try.func15, Try.ntmps15
    go_wp2_with fail
    refine HC.out.mono ?_
    rintro e w' ⟨rfl, hB⟩
    have HB := Lib.hid hB
    clear hB HC
    have fin : ∀ wz, Below w.heap.size w' wz → Below w.heap.size w wz := fun wz h => HB.out.trans h
    have FIN := Lib.hid fin
    have hsz : w.heap.size ≤ w'.heap.size := HB.out.size
    have HSZ := Lib.hid hsz
    clear fin hsz HB
    go_wp2_with fail
    go_ret
    refine ⟨ret_bool (is_row b), FIN.out _ ?_⟩
    repeat (first | exact Below.refl _ _ | refine Below.alloc ?_ (by first | exact HSZ.out | simp) _ | refine Below.setCell ?_ (by first | exact HSZ.out | simp) _)
  case row =>
    go_enter Try.func15, Try.ntmps15
    go_wp2_with fail
    refine HC.out.mono ?_
    rintro e w' ⟨rfl, hB⟩
    have HB := Lib.hid hB
    clear hB HC
    have fin : ∀ wz, Below w.heap.size w' wz → Below w.heap.size w wz := fun wz h => HB.out.trans h
    have FIN := Lib.hid fin
    have hsz : w.heap.size ≤ w'.heap.size := HB.out.size
    have HSZ := Lib.hid hsz
    clear fin hsz HB
    go_wp2_with fail
    go_ret
    refine ⟨ret_bool (is_cell b), FIN.out _ ?_⟩
    repeat (first | exact Below.refl _ _ | refine Below.alloc ?_ (by first | exact HSZ.out | simp) _ | refine Below.setCell ?_ (by first | exact HSZ.out | simp) _)
  all_goals
    simp only [Kd.allows]
    rcases kd_cases b with rfl | rfl | rfl | rfl | rfl | rfl | rfl | rfl | rfl | h
    case inr.inr.inr.inr.inr.inr.inr.inr.inr =>
      obtain ⟨hk, o1, o2, o3, o4, o5, o6, o7, o8, o9⟩ := odd_of h
      rw [hk]
      clear h hk
      go_enter Try.func15, Try.ntmps15
      go_wp2_with fail
      refine HC.out.mono ?_
      rintro e w' ⟨rfl, hB⟩
      have HB := Lib.hid hB
      clear hB HC
      have fin : ∀ wz, Below w.heap.size w' wz → Below w.heap.size w wz := fun wz h => HB.out.trans h
      have FIN := Lib.hid fin
      have hsz : w.heap.size ≤ w'.heap.size := HB.out.size
      have HSZ := Lib.hid hsz
      clear fin hsz HB
      go_wp2_with fail
      go_ret
      refine ⟨rfl, FIN.out _ ?_⟩
      repeat (first | exact Below.refl _ _ | refine Below.alloc ?_ (by first | exact HSZ.out | simp) _ | refine Below.setCell ?_ (by first | exact HSZ.out | simp) _)
    all_goals
      go_enter Try.func15, Try.ntmps15
      go_wp2_with fail
      refine HC.out.mono ?_
      rintro e w' ⟨rfl, hB⟩
      have HB := Lib.hid hB
      clear hB HC
      have fin : ∀ wz, Below w.heap.size w' wz → Below w.heap.size w wz := fun wz h => HB.out.trans h
      have FIN := Lib.hid fin
      have hsz : w.heap.size ≤ w'.heap.size := HB.out.size
      have HSZ := Lib.hid hsz
      clear fin hsz HB
      go_wp2_with fail
      go_ret
      refine ⟨rfl, FIN.out _ ?_⟩
      repeat (first | exact Below.refl _ _ | refine Below.alloc ?_ (by first | exact HSZ.out | simp) _ | refine Below.setCell ?_ (by first | exact HSZ.out | simp) _)

set_option maxRecDepth 100000 in
set_option maxHeartbeats 1000000 in
theorem rallows_any (a b : ByteArray) (w : World) : Calls Try.prog 16 #[.string a, .string b] w fun e w' => e = .returned (.bool ((kd a).allows (kd b))) ∧ w' = w := by
  rcases kd_cases a with rfl | rfl | rfl | rfl | rfl | rfl | rfl | rfl | rfl | h
  case inr.inr.inr.inr.inr.inr.inr.inr.inr =>
    obtain ⟨hk, o1, o2, o3, o4, o5, o6, o7, o8, o9⟩ := odd_of h
    rw [hk]
    clear h
    go_enter Try.func16, Try.ntmps16
    go_wp2_with fail
    go_ret
    exact ⟨rfl, rfl⟩
  all_goals
    simp only [kdPara, kdHead, kdQuote, kdList, kdTable, kdItem, kdRow, kdCell, kdDoc, Kd.allows]
    go_enter Try.func16, Try.ntmps16
    go_wp2_with fail
    first
    | (go_ret; first | exact ⟨rfl, rfl⟩ | exact ⟨ret_bool (is_item b), rfl⟩ | exact ⟨ret_bool (is_row b), rfl⟩ | exact ⟨ret_bool (is_cell b), rfl⟩)
    | (refine (flow_any _ _).mono ?_
       rintro e w' ⟨rfl, rfl⟩
       go_wp2_with fail
       go_ret
       exact ⟨rfl, rfl⟩)
end Go.Proofs.Ytcdhndhgainadaa
