/-
  stemmalaw04's live question.
-/
import Derived.Test.YtokpcpopibpebaaSame4F
namespace Go.Proofs.Ytokpcpopibpebaa
open Go Go.RowKit
set_option linter.unusedVariables false
set_option linter.unusedSimpArgs false

theorem alive_runs : runsBytes (runs [5, 5, 7]) = [2, 10, 1, 14] := by
  have h : runs (expand [(2, (5 : Int)), (1, 7)]) = [(2, 5), (1, 7)] := runs_expand _ none ⟨by decide, by decide, by decide, by decide, trivial⟩
  have e : expand [(2, (5 : Int)), (1, 7)] = [5, 5, 7] := rfl
  rw [e] at h
  rw [h]
  simp [runsBytes, runBytes, V.put_lt, zig]
theorem alive_bools : boolBytes [true, true, false] = [0, 2, 1] := by
  have h : runs (expand [(2, true), (1, false)]) = [(2, true), (1, false)] := runs_expand _ none ⟨by decide, by decide, by decide, by decide, trivial⟩
  have e : expand [(2, true), (1, false)] = [true, true, false] := rfl
  rw [e] at h
  unfold boolBytes cntsV
  rw [h]
  simp [puts, V.put_lt]

set_option maxRecDepth 100000 in
set_option maxHeartbeats 2000000 in
theorem alive4_any (w : World) : Calls Try.prog 26 #[] w fun e w' => e = .returned (.bool true) ∧ Below w.heap.size w w' := by
  have hI : ∀ x ∈ ([5, 5, 7] : List Int), InI x := by intro x hx; simp at hx; rcases hx with rfl | rfl <;> (unfold InI; omega)
  have hR := runs_any (some ⟨w.heap.size, 0, none⟩) 3 3 [5, 5, 7] (by omega) (Nat.le_refl _) (by simp [maxLen]) hI (w.alloc (.cells (i64s [5, 5, 7]).toArray 3)) ((rd_alloc w (i64s [5, 5, 7]).toArray 3 (0, 0) 3 1 rfl).more (by simp))
  rw [alive_runs] at hR
  have hb : ∀ w' : World, Calls Try.prog 31 #[.slice (some ⟨w'.heap.size, 0, none⟩) 3 3] (w'.alloc (.cells #[.bool true, .bool true, .bool false] 4)) (Made8 [0, 2, 1] (w'.alloc (.cells #[.bool true, .bool true, .bool false] 4))) := fun w' => by
    have := bools_any (some ⟨w'.heap.size, 0, none⟩) 3 3 [true, true, false] (by omega) (Nat.le_refl _) (by simp [maxLen]) (w'.alloc (.cells (bls [true, true, false]).toArray 4)) ((rd_alloc w' (bls [true, true, false]).toArray 4 (0, 0) 3 1 rfl).more (by simp))
    rw [alive_bools] at this
    exact this
  have HR : Hid (Calls Try.prog 27 #[.slice (some ⟨w.heap.size, 0, none⟩) 3 3] (w.alloc (.cells #[.int .i64 5, .int .i64 5, .int .i64 7] 3)) (Made8 [2, 10, 1, 14] (w.alloc (.cells #[.int .i64 5, .int .i64 5, .int .i64 7] 3)))) := Lib.hid hR
  have HB := Lib.hid hb
  clear hI hR hb
  go_enter Try.func26, Try.ntmps26
  go_wp2_with fail
  refine HR.out.mono ?_
  rintro e w1 ⟨A1, c1, rfl, own1, hB1⟩
  obtain ⟨g1, rfl, hg1, hg1'⟩ := own_addr own1 (by simp)
  have B1 : Hid (Below w.heap.size w w1) := Lib.hid (((Below.refl _ w).alloc (Nat.le_refl _) _).trans (hB1.mono (by simp)))
  have O1 := Lib.hid own1
  clear own1 hB1
  go_wp2_with fail
  refine (HB.out w1).mono ?_
  rintro e w2 ⟨A2, c2, rfl, own2, hB2⟩
  obtain ⟨g2, rfl, hg2, hg2'⟩ := own_addr own2 (by simp)
  have B2 : Hid (Below w.heap.size w w2) := Lib.hid ((B1.out.alloc B1.out.size _).trans (hB2.mono (by have := B1.out.size; simp; omega)))
  have O2 := own_heap (O1.out.alloc (.cells #[.bool true, .bool true, .bool false] 4)) fun g eg => hB2.block g ((O1.out.alloc _).lt g eg).2
  have a0 : w2.cell? ⟨g1, 0, none⟩ = some (.int .u8 2) := O2.cellAt 0 (by simp)
  have a1 : w2.cell? ⟨g1, 1, none⟩ = some (.int .u8 10) := O2.cellAt 1 (by simp)
  have a3 : w2.cell? ⟨g1, 3, none⟩ = some (.int .u8 14) := O2.cellAt 3 (by simp)
  have b1 : w2.cell? ⟨g2, 1, none⟩ = some (.int .u8 2) := own2.cellAt 1 (by simp)
  clear own2 hB2 O1 O2 B1 hg1 hg1' hg2 hg2'
  go_wp2_with fail
  go_ret
  exact ⟨rfl, B2.out⟩
end Go.Proofs.Ytokpcpopibpebaa
