/-
  The contract of the document's wrapped; Fit's, whole.
-/
import Derived.Test.YtcdhndhgainadaaRFitF
namespace Go.Proofs.Ytcdhndhgainadaa
open Go Go.RowKit
set_option linter.unusedVariables false
set_option linter.unusedSimpArgs false

theorem fit43_any (p : ByteArray) (hp : Par (kd p)) (hW : WrapC 54 p fun s => .int .i64 (s.code (kd p))) : FitC 43 p := by
  by_cases h : kd p = .table
  · exact fit43_tab p h hW
  · exact fit43_non p hp h hW
theorem flow_code {p : Kd} (h : FlowP p) (s : Srt) : s.code p = (match s with | .stay => 0 | .item => 2 | .row => 3 | .cell => 4 | .other => 1) := by
  rcases h with rfl | rfl | rfl | rfl <;> cases s <;> rfl

set_option maxRecDepth 100000 in
set_option maxHeartbeats 1000000 in
theorem wrapflow54 (p : ByteArray) (hp : FlowP (kd p)) : WrapC 54 p fun s => .int .i64 (s.code (kd p)) := by
  intro w S s A m c run hs hne hG hm hS hr
  obtain ⟨t1, t2, t3⟩ := hp.nots
  have hw := wrapT_flow hp s run
  have HR := Lib.hid hr
  have hst : ∀ w' : World, Below w.heap.size w w' → RdF w' (Sn w.heap.size S) A m c run := fun w' hb => HR.out.stay (.below hb fun _ _ h => .inl h)
  have HST := Lib.hid hst
  simp only [flow_code hp]
  clear hr hG hS hp hst
  cases s with
  | stay => exact absurd rfl hs
  | item =>
    refine ⟨mk sList run, hw, ?_⟩
    simp only
    clear hw
    go_enter Try.func54, Try.ntmps54
    go_wp2_with fail
    refine (made52_any _ _ _ _ _).mono ?_
    rintro e w1 ⟨rfl, rfl⟩
    go_wp2_with fail
    exact bodyPost_ret (ret_node rfl _ _ w.heap.size _ rfl ((BoxN.made w _ _).alloc _) rfl) rfl ⟨_, rfl, NdF.made sList (HST.out _ (blOn (blAl _) _)), blOn (blAl _) _⟩
  | row =>
    refine ⟨mk sTable run, hw, ?_⟩
    simp only
    clear hw
    go_enter Try.func54, Try.ntmps54
    go_wp2_with fail
    refine (made52_any _ _ _ _ _).mono ?_
    rintro e w1 ⟨rfl, rfl⟩
    go_wp2_with fail
    exact bodyPost_ret (ret_node rfl _ _ w.heap.size _ rfl ((BoxN.made w _ _).alloc _) rfl) rfl ⟨_, rfl, NdF.made sTable (HST.out _ (blOn (blAl _) _)), blOn (blAl _) _⟩
  | cell =>
    refine ⟨mk sTable [mk sRow run], hw, ?_⟩
    simp only
    clear hw
    go_enter Try.func54, Try.ntmps54
    go_wp2_with fail
    refine (made52_any _ _ _ _ _).mono ?_
    rintro e w1 ⟨rfl, rfl⟩
    go_wp2_with fail
    refine (made52_any _ _ _ _ _).mono ?_
    rintro e w1 ⟨rfl, rfl⟩
    go_wp2_with fail
    have h1 : RdF _ (Sn w.heap.size S) (some ⟨w.heap.size + 1 + 1, 0, none⟩) 1 1 [mk sRow run] := RdF.one (w := (w.alloc (.cells #[.int .i64 0, .int .i64 0, .string sTable, .slice none 0 0, .slice none 0 0, .slice (some ⟨w.heap.size + 1 + 1, 0, none⟩) 1 1] 31)).alloc (.cells (mkV sRow A m c) 31)) (S := Sn w.heap.size S) (mkV sRow A m c) (mk sRow run) (NdF.made sRow (HST.out _ (blOn (blAl _) _))) (fun _ _ h => h) (w.heap.size + 1 + 1) (by simp only [World.size_alloc]) (.inr (by omega))
    exact bodyPost_ret (ret_node rfl _ _ w.heap.size _ rfl ((((BoxN.made w _ _).alloc _).alloc _).alloc _) rfl) rfl ⟨_, rfl, NdF.made sTable (h1.stay (.below (blAl _) fun _ _ h => h)), blOn (blOn (blOn (blAl _) _) _) _⟩
  | other =>
    refine ⟨mk sTable [mk sRow run], hw, ?_⟩
    simp only
    clear hw
    go_enter Try.func54, Try.ntmps54
    go_wp2_with fail
    refine (made52_any _ _ _ _ _).mono ?_
    rintro e w1 ⟨rfl, rfl⟩
    go_wp2_with fail
    refine (made52_any _ _ _ _ _).mono ?_
    rintro e w1 ⟨rfl, rfl⟩
    go_wp2_with fail
    have h1 : RdF _ (Sn w.heap.size S) (some ⟨w.heap.size + 1 + 1, 0, none⟩) 1 1 [mk sRow run] := RdF.one (w := (w.alloc (.cells #[.int .i64 0, .int .i64 0, .string sTable, .slice none 0 0, .slice none 0 0, .slice (some ⟨w.heap.size + 1 + 1, 0, none⟩) 1 1] 31)).alloc (.cells (mkV sRow A m c) 31)) (S := Sn w.heap.size S) (mkV sRow A m c) (mk sRow run) (NdF.made sRow (HST.out _ (blOn (blAl _) _))) (fun _ _ h => h) (w.heap.size + 1 + 1) (by simp only [World.size_alloc]) (.inr (by omega))
    exact bodyPost_ret (ret_node rfl _ _ w.heap.size _ rfl ((((BoxN.made w _ _).alloc _).alloc _).alloc _) rfl) rfl ⟨_, rfl, NdF.made sTable (h1.stay (.below (blAl _) fun _ _ h => h)), blOn (blOn (blOn (blAl _) _) _) _⟩

theorem fitflow43 (p : ByteArray) (hp : FlowP (kd p)) : FitC 43 p := fit43_any p hp.par (wrapflow54 p hp)

set_option maxRecDepth 100000 in
set_option maxHeartbeats 1000000 in
theorem wraplist54 (p : ByteArray) (hp : kd p = .list) : WrapC 54 p fun s => .int .i64 (s.code (kd p)) := by
  intro w S s A m c run hs hne hG hm hS hr
  have t0 : (p.toList == [108, 105, 115, 116]) = true := by rw [is_list, hp]; rfl
  have t1 : (p.toList == [114, 111, 119]) = false := by rw [is_row, hp]; rfl
  have hw : wrapT (kd p) s run = [mk sItem (fitT (kd sItem) run)] := by
    rw [hp, kdItem, fitT_flow (by simp)]
    cases s <;> first | rfl | exact absurd rfl hs
  refine ⟨_, hw, ?_⟩
  have hB0 : Below w.heap.size w (w.alloc (.cells zV 31)) := blAl _
  have HF := Lib.hid (fitflow43 sItem (by rw [kdItem]; simp [FlowP]) (w.alloc (.cells zV 31)) S A m c run hG hm (fun b h => by have := hS b h; rw [World.size_alloc]; omega) (hr.stay (.below hB0 fun _ _ h => h)))
  have HS := Lib.hid hS
  have X0 := BoxN.made w zV 31
  have HX0 := Lib.hid X0
  have HB0 := Lib.hid hB0
  clear hw hp hG hS hr hB0 X0
  simp only
  generalize s.code (kd p) = st
  go_enter Try.func54, Try.ntmps54
  go_wp2_with fail
  refine HF.out.mono ?_
  rintro e w1 ⟨A1, n1, c1, rfl, hr1, hB1⟩
  have HX1 := Lib.hid (HX0.out.below hB1 HX0.out.lt)
  have HR1 := Lib.hid hr1
  have HB1 := Lib.hid (HB0.out.trans (hB1.mono HB0.out.size))
  clear hr1 hB1 HF HX0
  go_wp2_with fail
  refine (made52_any _ _ _ _ _).mono ?_
  rintro e w2 ⟨rfl, hw2⟩
  have hX2 : BoxN w2 w.heap.size zV 31 := by rw [hw2]; exact HX1.out.alloc _
  have hR2 : NdF w2 (Sn (w.heap.size + 1) S) (mkV sItem A1 n1 c1).toList (mk sItem (fitT (kd sItem) run)) := by
    rw [hw2]
    exact NdF.made sItem (HR1.out.stay (.below (blAl _) fun b _ h => by rw [World.size_alloc] at h; exact h))
  have hB2 : Below w.heap.size w w2 := by rw [hw2]; exact blOn HB1.out _
  have w2c0 : w2.cell? ⟨w.heap.size, 0, none⟩ = some (.int .i64 0) := hX2.cell (j := 0) rfl
  have w2c1 : w2.cell? ⟨w.heap.size, 1, none⟩ = some (.int .i64 0) := hX2.cell (j := 1) rfl
  have w2c2 : w2.cell? ⟨w.heap.size, 2, none⟩ = some (.string ⟨#[]⟩) := hX2.cell (j := 2) rfl
  have w2c3 : w2.cell? ⟨w.heap.size, 3, none⟩ = some (.slice none 0 0) := hX2.cell (j := 3) rfl
  have w2c4 : w2.cell? ⟨w.heap.size, 4, none⟩ = some (.slice none 0 0) := hX2.cell (j := 4) rfl
  have w2c5 : w2.cell? ⟨w.heap.size, 5, none⟩ = some (.slice none 0 0) := hX2.cell (j := 5) rfl
  have w2f : ∀ jj, w2.frozen? ⟨w.heap.size, jj, none⟩ = false := fun jj => hX2.frozen
  have HX2 := Lib.hid hX2
  have HR2 := Lib.hid hR2
  have HB2 := Lib.hid hB2
  clear hX2 hR2 hB2 hw2 HR1 HB1 HX1 HB0
  go_wp2_with fail
  exact bodyPost_ret (ret_node rfl _ _ w.heap.size _ rfl (HX2.out.six _ _ _ _ _ _) rfl) rfl ⟨_, rfl, HR2.out.stay (six_stay _ _ _ _ _ _ (sn_ne HS.out) sn_more), HB2.out.trans (six_below (Nat.le_refl _) _ _ _ _ _ _)⟩

set_option maxRecDepth 100000 in
set_option maxHeartbeats 1000000 in
theorem wraprow54 (p : ByteArray) (hp : kd p = .row) : WrapC 54 p fun s => .int .i64 (s.code (kd p)) := by
  intro w S s A m c run hs hne hG hm hS hr
  have t0 : (p.toList == [108, 105, 115, 116]) = false := by rw [is_list, hp]; rfl
  have t1 : (p.toList == [114, 111, 119]) = true := by rw [is_row, hp]; rfl
  have hw : wrapT (kd p) s run = [mk sCell (fitT (kd sCell) run)] := by
    rw [hp, kdCell, fitT_flow (by simp)]
    cases s <;> first | rfl | exact absurd rfl hs
  refine ⟨_, hw, ?_⟩
  have hB0 : Below w.heap.size w (w.alloc (.cells zV 31)) := blAl _
  have HF := Lib.hid (fitflow43 sCell (by rw [kdCell]; simp [FlowP]) (w.alloc (.cells zV 31)) S A m c run hG hm (fun b h => by have := hS b h; rw [World.size_alloc]; omega) (hr.stay (.below hB0 fun _ _ h => h)))
  have HS := Lib.hid hS
  have X0 := BoxN.made w zV 31
  have HX0 := Lib.hid X0
  have HB0 := Lib.hid hB0
  clear hw hp hG hS hr hB0 X0
  simp only
  generalize s.code (kd p) = st
  go_enter Try.func54, Try.ntmps54
  go_wp2_with fail
  refine HF.out.mono ?_
  rintro e w1 ⟨A1, n1, c1, rfl, hr1, hB1⟩
  have HX1 := Lib.hid (HX0.out.below hB1 HX0.out.lt)
  have HR1 := Lib.hid hr1
  have HB1 := Lib.hid (HB0.out.trans (hB1.mono HB0.out.size))
  clear hr1 hB1 HF HX0
  go_wp2_with fail
  refine (made52_any _ _ _ _ _).mono ?_
  rintro e w2 ⟨rfl, hw2⟩
  have hX2 : BoxN w2 w.heap.size zV 31 := by rw [hw2]; exact HX1.out.alloc _
  have hR2 : NdF w2 (Sn (w.heap.size + 1) S) (mkV sCell A1 n1 c1).toList (mk sCell (fitT (kd sCell) run)) := by
    rw [hw2]
    exact NdF.made sCell (HR1.out.stay (.below (blAl _) fun b _ h => by rw [World.size_alloc] at h; exact h))
  have hB2 : Below w.heap.size w w2 := by rw [hw2]; exact blOn HB1.out _
  have w2c0 : w2.cell? ⟨w.heap.size, 0, none⟩ = some (.int .i64 0) := hX2.cell (j := 0) rfl
  have w2c1 : w2.cell? ⟨w.heap.size, 1, none⟩ = some (.int .i64 0) := hX2.cell (j := 1) rfl
  have w2c2 : w2.cell? ⟨w.heap.size, 2, none⟩ = some (.string ⟨#[]⟩) := hX2.cell (j := 2) rfl
  have w2c3 : w2.cell? ⟨w.heap.size, 3, none⟩ = some (.slice none 0 0) := hX2.cell (j := 3) rfl
  have w2c4 : w2.cell? ⟨w.heap.size, 4, none⟩ = some (.slice none 0 0) := hX2.cell (j := 4) rfl
  have w2c5 : w2.cell? ⟨w.heap.size, 5, none⟩ = some (.slice none 0 0) := hX2.cell (j := 5) rfl
  have w2f : ∀ jj, w2.frozen? ⟨w.heap.size, jj, none⟩ = false := fun jj => hX2.frozen
  have HX2 := Lib.hid hX2
  have HR2 := Lib.hid hR2
  have HB2 := Lib.hid hB2
  clear hX2 hR2 hB2 hw2 HR1 HB1 HX1 HB0
  go_wp2_with fail
  exact bodyPost_ret (ret_node rfl _ _ w.heap.size _ rfl (HX2.out.six _ _ _ _ _ _) rfl) rfl ⟨_, rfl, HR2.out.stay (six_stay _ _ _ _ _ _ (sn_ne HS.out) sn_more), HB2.out.trans (six_below (Nat.le_refl _) _ _ _ _ _ _)⟩

set_option maxRecDepth 100000 in
set_option maxHeartbeats 1000000 in
theorem wraptable54 (p : ByteArray) (hp : kd p = .table) : WrapC 54 p fun s => .int .i64 (s.code (kd p)) := by
  intro w S s A m c run hs hne hG hm hS hr
  have t0 : (p.toList == [108, 105, 115, 116]) = false := by rw [is_list, hp]; rfl
  have t1 : (p.toList == [114, 111, 119]) = false := by rw [is_row, hp]; rfl
  have t2 : (p.toList == [116, 97, 98, 108, 101]) = true := by rw [is_table, hp]; rfl
  by_cases hsc : s = .cell
  · subst hsc
    refine ⟨mk sRow run, by rw [hp]; rfl, ?_⟩
    have HR := Lib.hid hr
    clear hr hG hS hp
    simp only [Srt.code]
    go_enter Try.func54, Try.ntmps54
    go_wp2_with fail
    refine (made52_any _ _ _ _ _).mono ?_
    rintro e w1 ⟨rfl, rfl⟩
    go_wp2_with fail
    exact bodyPost_ret (ret_node rfl _ _ w.heap.size _ rfl ((BoxN.made w _ _).alloc _) rfl) rfl ⟨_, rfl, NdF.made sRow (HR.out.stay (.below (blOn (blAl _) _) fun _ _ h => .inl h)), blOn (blAl _) _⟩
  have hw : wrapT (kd p) s run = [mk sRow [mk sCell (fitT (kd sCell) run)]] := by
    rw [hp, kdCell, fitT_flow (by simp)]
    cases s <;> first | rfl | exact absurd rfl hs | exact absurd rfl hsc
  refine ⟨_, hw, ?_⟩
  have hB0 : Below w.heap.size w (w.alloc (.cells zV 31)) := blAl _
  have HF := Lib.hid (fitflow43 sCell (by rw [kdCell]; simp [FlowP]) (w.alloc (.cells zV 31)) S A m c run hG hm (fun b h => by have := hS b h; rw [World.size_alloc]; omega) (hr.stay (.below hB0 fun _ _ h => h)))
  have HS := Lib.hid hS
  have X0 := BoxN.made w zV 31
  have HX0 := Lib.hid X0
  have HB0 := Lib.hid hB0
  simp only
  have t3 : (s.code (kd p) == 4) = false := by
    rw [hp]
    cases s <;> first | rfl | exact absurd rfl hsc
  generalize s.code (kd p) = st at *
  clear hw hp hG hS hr hB0 X0
  go_enter Try.func54, Try.ntmps54
  go_wp2_with fail
  refine HF.out.mono ?_
  rintro e w1 ⟨A1, n1, c1, rfl, hr1, hB1⟩
  have HX1 := Lib.hid (HX0.out.below hB1 HX0.out.lt)
  have HR1 := Lib.hid hr1
  have HB1 := Lib.hid (HB0.out.trans (hB1.mono HB0.out.size))
  clear hr1 hB1 HF HX0
  go_wp2_with fail
  refine (made52_any _ _ _ _ _).mono ?_
  rintro e w2 ⟨rfl, hw2⟩
  have HX2 : Hid (BoxN w2 w.heap.size zV 31) := Lib.hid (by rw [hw2]; exact HX1.out.alloc _)
  have HR2 : Hid (NdF w2 (Sn (w.heap.size + 1) S) (mkV sCell A1 n1 c1).toList (mk sCell (fitT (kd sCell) run))) := Lib.hid (by
    rw [hw2]
    exact NdF.made sCell (HR1.out.stay (.below (blAl _) fun b _ h => by rw [World.size_alloc] at h; exact h)))
  have HB2 : Hid (Below w.heap.size w w2) := Lib.hid (by rw [hw2]; exact blOn HB1.out _)
  clear hw2 HR1 HB1 HX1 HB0
  go_wp2_with fail
  refine (made52_any _ _ _ _ _).mono ?_
  rintro e w4 ⟨rfl, hw4⟩
  have hX4 : BoxN w4 w.heap.size zV 31 := by rw [hw4]; exact (HX2.out.alloc _).alloc _
  have hR4 : NdF w4 (Sn (w.heap.size + 1) S) (mkV sRow (some ⟨w2.heap.size, 0, none⟩) 1 1).toList (mk sRow [mk sCell (fitT (kd sCell) run)]) := by
    rw [hw4]
    exact NdF.made sRow ((RdF.one (S := Sn (w.heap.size + 1) S) (S' := Sn (w.heap.size + 1) S) _ _ HR2.out (fun _ _ h => h) w2.heap.size rfl (.inr HX2.out.lt)).stay (.below (blAl _) fun _ _ h => h))
  have hB4 : Below w.heap.size w w4 := by rw [hw4]; exact blOn (blOn HB2.out _) _
  have w4c0 : w4.cell? ⟨w.heap.size, 0, none⟩ = some (.int .i64 0) := hX4.cell (j := 0) rfl
  have w4c1 : w4.cell? ⟨w.heap.size, 1, none⟩ = some (.int .i64 0) := hX4.cell (j := 1) rfl
  have w4c2 : w4.cell? ⟨w.heap.size, 2, none⟩ = some (.string ⟨#[]⟩) := hX4.cell (j := 2) rfl
  have w4c3 : w4.cell? ⟨w.heap.size, 3, none⟩ = some (.slice none 0 0) := hX4.cell (j := 3) rfl
  have w4c4 : w4.cell? ⟨w.heap.size, 4, none⟩ = some (.slice none 0 0) := hX4.cell (j := 4) rfl
  have w4c5 : w4.cell? ⟨w.heap.size, 5, none⟩ = some (.slice none 0 0) := hX4.cell (j := 5) rfl
  have w4f : ∀ jj, w4.frozen? ⟨w.heap.size, jj, none⟩ = false := fun jj => hX4.frozen
  have HX4 := Lib.hid hX4
  have HR4 := Lib.hid hR4
  have HB4 := Lib.hid hB4
  clear hX4 hR4 hB4 hw4 HR2 HB2 HX2
  go_wp2_with fail
  exact bodyPost_ret (ret_node rfl _ _ w.heap.size _ rfl (HX4.out.six _ _ _ _ _ _) rfl) rfl ⟨_, rfl, HR4.out.stay (six_stay _ _ _ _ _ _ (sn_ne HS.out) sn_more), HB4.out.trans (six_below (Nat.le_refl _) _ _ _ _ _ _)⟩

theorem wrap54_any (p : ByteArray) (hp : Par (kd p)) : WrapC 54 p fun s => .int .i64 (s.code (kd p)) := by
  rcases hp with h | h | h | h | h | h | h
  · exact wrapflow54 p (.inl h)
  · exact wrapflow54 p (.inr (.inl h))
  · exact wrapflow54 p (.inr (.inr (.inl h)))
  · exact wrapflow54 p (.inr (.inr (.inr h)))
  · exact wraplist54 p h
  · exact wraprow54 p h
  · exact wraptable54 p h
/-- FIT, OF THE DOCUMENT -/
theorem fitR (p : ByteArray) (hp : Par (kd p)) : FitC 43 p := fit43_any p hp (wrap54_any p hp)
end Go.Proofs.Ytcdhndhgainadaa
