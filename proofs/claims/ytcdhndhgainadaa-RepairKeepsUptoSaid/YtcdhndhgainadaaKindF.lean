/-
  The contracts of the kinds' functions.
-/
import Derived.Test.YtcdhndhgainadaaKindLaw
import Derived.Test.YtcdhndhgainadaaProg
import Derived.Deep.QuietTactic
import Derived.BigQuiet
namespace Go.Proofs.Ytcdhndhgainadaa
open Go Go.RowKit
set_option linter.unusedVariables false

set_option maxRecDepth 100000 in
set_option maxHeartbeats 1000000 in
theorem flow_any (a : ByteArray) (w : World) : Calls Try.prog 34 #[.string a] w fun e w' => e = .returned (.bool (kd a).flow) ∧ w' = w := by
  rcases kd_cases a with rfl | rfl | rfl | rfl | rfl | rfl | rfl | rfl | rfl | h
  case inr.inr.inr.inr.inr.inr.inr.inr.inr =>
    obtain ⟨hk, o1, o2, o3, o4, o5, o6, o7, o8, o9⟩ := odd_of h
    rw [hk]
    clear h
    go_enter Try.func34, Try.ntmps34
    go_wp2_with fail
    go_ret
    exact ⟨rfl, rfl⟩
  all_goals
    go_enter Try.func34, Try.ntmps34
    go_wp2_with fail
    go_ret
    exact ⟨rfl, rfl⟩

set_option maxRecDepth 100000 in
set_option maxHeartbeats 1000000 in
theorem known_any (a : ByteArray) (w : World) : Calls Try.prog 33 #[.string a] w fun e w' => e = .returned (.bool (kd a).known) ∧ w' = w := by
  rcases kd_cases a with rfl | rfl | rfl | rfl | rfl | rfl | rfl | rfl | rfl | h
  case inr.inr.inr.inr.inr.inr.inr.inr.inr =>
    obtain ⟨hk, o1, o2, o3, o4, o5, o6, o7, o8, o9⟩ := odd_of h
    rw [hk]
    clear h
    go_enter Try.func33, Try.ntmps33
    go_wp2_with fail
    refine (flow_any _ _).mono ?_
    rintro e w' ⟨rfl, rfl⟩
    simp only [hk, Kd.flow]
    go_wp2_with fail
    go_ret
    exact ⟨rfl, rfl⟩
  all_goals
    go_enter Try.func33, Try.ntmps33
    go_wp2_with fail
    refine (flow_any _ _).mono ?_
    rintro e w' ⟨rfl, rfl⟩
    simp only [kdPara, kdHead, kdQuote, kdList, kdTable, kdItem, kdRow, kdCell, kdDoc, Kd.flow]
    go_wp2_with fail
    go_ret
    exact ⟨rfl, rfl⟩

set_option maxRecDepth 100000 in
set_option maxHeartbeats 1000000 in
theorem rholds_any (a : ByteArray) (w : World) : Calls Try.prog 18 #[.string a] w fun e w' => e = .returned (.bool (kd a).holds) ∧ w' = w := by
  rcases kd_cases a with rfl | rfl | rfl | rfl | rfl | rfl | rfl | rfl | rfl | h
  case inr.inr.inr.inr.inr.inr.inr.inr.inr =>
    obtain ⟨hk, o1, o2, o3, o4, o5, o6, o7, o8, o9⟩ := odd_of h
    rw [hk]
    clear h
    go_enter Try.func18, Try.ntmps18
    go_wp2_with fail
    go_ret
    exact ⟨rfl, rfl⟩
  all_goals
    go_enter Try.func18, Try.ntmps18
    go_wp2_with fail
    go_ret
    exact ⟨rfl, rfl⟩

set_option maxRecDepth 100000 in
set_option maxHeartbeats 1000000 in
theorem needs_any (a : ByteArray) (w : World) : Calls Try.prog 46 #[.string a] w fun e w' => e = .returned (.bool (kd a).needs) ∧ w' = w := by
  rcases kd_cases a with rfl | rfl | rfl | rfl | rfl | rfl | rfl | rfl | rfl | h
  case inr.inr.inr.inr.inr.inr.inr.inr.inr =>
    obtain ⟨hk, o1, o2, o3, o4, o5, o6, o7, o8, o9⟩ := odd_of h
    rw [hk]
    clear h
    go_enter Try.func46, Try.ntmps46
    go_wp2_with fail
    go_ret
    exact ⟨rfl, rfl⟩
  all_goals
    go_enter Try.func46, Try.ntmps46
    go_wp2_with fail
    go_ret
    exact ⟨rfl, rfl⟩

/-- a kind's class, as cells -/
def cls (k : Kd) : Value := .agg #[.string k.under, .bool k.needs, .bool k.holds]
set_option maxRecDepth 100000 in
set_option maxHeartbeats 1000000 in
theorem class_any (a : ByteArray) (w : World) : Calls Try.prog 35 #[.string a] w fun e w' => e = .returned (.tuple #[cls (kd a), .bool (kd a).known]) ∧ Below w.heap.size w w' := by
  rcases kd_cases a with rfl | rfl | rfl | rfl | rfl | rfl | rfl | rfl | rfl | h
  · rw [kdPara]
    go_enter Try.func35, Try.ntmps35
    go_wp2_with fail
    refine bodyPost_ret (v := .tuple #[cls .para, .bool (Kd.known .para)]) (by simp [results, Try.results35, go_sem, cls, Kd.under, Kd.needs, Kd.holds, Kd.known]) rfl ⟨rfl, ?_⟩
    repeat (first | exact Below.refl _ _ | refine Below.alloc ?_ (by simp) _ | refine Below.setCell ?_ (by simp) _)
  · rw [kdHead]
    go_enter Try.func35, Try.ntmps35
    go_wp2_with fail
    refine bodyPost_ret (v := .tuple #[cls .head, .bool (Kd.known .head)]) (by simp [results, Try.results35, go_sem, cls, Kd.under, Kd.needs, Kd.holds, Kd.known]) rfl ⟨rfl, ?_⟩
    repeat (first | exact Below.refl _ _ | refine Below.alloc ?_ (by simp) _ | refine Below.setCell ?_ (by simp) _)
  · rw [kdQuote]
    go_enter Try.func35, Try.ntmps35
    go_wp2_with fail
    refine bodyPost_ret (v := .tuple #[cls .quote, .bool (Kd.known .quote)]) (by simp [results, Try.results35, go_sem, cls, Kd.under, Kd.needs, Kd.holds, Kd.known]) rfl ⟨rfl, ?_⟩
    repeat (first | exact Below.refl _ _ | refine Below.alloc ?_ (by simp) _ | refine Below.setCell ?_ (by simp) _)
  · rw [kdList]
    go_enter Try.func35, Try.ntmps35
    go_wp2_with fail
    refine bodyPost_ret (v := .tuple #[cls .list, .bool (Kd.known .list)]) (by simp [results, Try.results35, go_sem, cls, Kd.under, Kd.needs, Kd.holds, Kd.known]) rfl ⟨rfl, ?_⟩
    repeat (first | exact Below.refl _ _ | refine Below.alloc ?_ (by simp) _ | refine Below.setCell ?_ (by simp) _)
  · rw [kdTable]
    go_enter Try.func35, Try.ntmps35
    go_wp2_with fail
    refine bodyPost_ret (v := .tuple #[cls .table, .bool (Kd.known .table)]) (by simp [results, Try.results35, go_sem, cls, Kd.under, Kd.needs, Kd.holds, Kd.known]) rfl ⟨rfl, ?_⟩
    repeat (first | exact Below.refl _ _ | refine Below.alloc ?_ (by simp) _ | refine Below.setCell ?_ (by simp) _)
  · rw [kdItem]
    go_enter Try.func35, Try.ntmps35
    go_wp2_with fail
    refine bodyPost_ret (v := .tuple #[cls .item, .bool (Kd.known .item)]) (by simp [results, Try.results35, go_sem, cls, Kd.under, Kd.needs, Kd.holds, Kd.known]) rfl ⟨rfl, ?_⟩
    repeat (first | exact Below.refl _ _ | refine Below.alloc ?_ (by simp) _ | refine Below.setCell ?_ (by simp) _)
  · rw [kdRow]
    go_enter Try.func35, Try.ntmps35
    go_wp2_with fail
    refine bodyPost_ret (v := .tuple #[cls .row, .bool (Kd.known .row)]) (by simp [results, Try.results35, go_sem, cls, Kd.under, Kd.needs, Kd.holds, Kd.known]) rfl ⟨rfl, ?_⟩
    repeat (first | exact Below.refl _ _ | refine Below.alloc ?_ (by simp) _ | refine Below.setCell ?_ (by simp) _)
  · rw [kdCell]
    go_enter Try.func35, Try.ntmps35
    go_wp2_with fail
    refine bodyPost_ret (v := .tuple #[cls .cell, .bool (Kd.known .cell)]) (by simp [results, Try.results35, go_sem, cls, Kd.under, Kd.needs, Kd.holds, Kd.known]) rfl ⟨rfl, ?_⟩
    repeat (first | exact Below.refl _ _ | refine Below.alloc ?_ (by simp) _ | refine Below.setCell ?_ (by simp) _)
  · rw [kdDoc]
    go_enter Try.func35, Try.ntmps35
    go_wp2_with fail
    refine bodyPost_ret (v := .tuple #[cls .doc, .bool (Kd.known .doc)]) (by simp [results, Try.results35, go_sem, cls, Kd.under, Kd.needs, Kd.holds, Kd.known]) rfl ⟨rfl, ?_⟩
    repeat (first | exact Below.refl _ _ | refine Below.alloc ?_ (by simp) _ | refine Below.setCell ?_ (by simp) _)
  · obtain ⟨hk, o1, o2, o3, o4, o5, o6, o7, o8, o9⟩ := odd_of h
    rw [hk]
    clear h hk
    go_enter Try.func35, Try.ntmps35
    go_wp2_with fail
    refine bodyPost_ret (v := .tuple #[cls .other, .bool (Kd.known .other)]) (by simp [results, Try.results35, go_sem, cls, Kd.under, Kd.needs, Kd.holds, Kd.known]) rfl ⟨rfl, ?_⟩
    repeat (first | exact Below.refl _ _ | refine Below.alloc ?_ (by simp) _ | refine Below.setCell ?_ (by simp) _)
end Go.Proofs.Ytcdhndhgainadaa
