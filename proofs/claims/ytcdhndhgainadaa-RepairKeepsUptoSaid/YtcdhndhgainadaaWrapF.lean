/-
  The contract of the program's wrap; fit's, whole.
-/
import Derived.Test.YtcdhndhgainadaaFitF
namespace Go.Proofs.Ytcdhndhgainadaa
open Go Go.RowKit
set_option linter.unusedVariables false
set_option linter.unusedSimpArgs false

def FlowP (p : Kd) : Prop := p = .doc ∨ p = .quote ∨ p = .item ∨ p = .cell
theorem FlowP.par {p : Kd} (h : FlowP p) : Par p := by rcases h with h | h | h | h <;> simp [Par, h]
theorem wrapT_flow {p : Kd} (h : FlowP p) (s : Srt) (run : List RT) : wrapT p s run = wrapF s run := by rcases h with rfl | rfl | rfl | rfl <;> cases s <;> rfl
theorem FlowP.nots {p : ByteArray} (h : FlowP (kd p)) : (p.toList == [108, 105, 115, 116]) = false ∧ (p.toList == [114, 111, 119]) = false ∧ (p.toList == [116, 97, 98, 108, 101]) = false := by
  rw [is_list, is_row, is_table]
  rcases h with h | h | h | h <;> rw [h] <;> exact ⟨rfl, rfl, rfl⟩
/-- a block of six, stored anew -/
theorem BoxN.six {w : World} {b : Nat} {z0 z1 z2 z3 z4 z5 : Value} {t : TypeId} (h : BoxN w b #[z0, z1, z2, z3, z4, z5] t) (u0 u1 u2 u3 u4 u5 : Value) : BoxN (six w b 0 u0 u1 u2 u3 u4 u5) b #[u0, u1, u2, u3, u4, u5] t :=
  ((((((h.setAt 0 u0).setAt 1 u1).setAt 2 u2).setAt 3 u3).setAt 4 u4).setAt 5 u5)
theorem six_below {w : World} {b B : Nat} (h : B ≤ b) (u0 u1 u2 u3 u4 u5 : Value) {o : Nat} : Below B w (six w b o u0 u1 u2 u3 u4 u5) :=
  ((((((Below.refl B w).setCell (p := ⟨b, _, none⟩) h _).setCell (p := ⟨b, _, none⟩) h _).setCell (p := ⟨b, _, none⟩) h _).setCell (p := ⟨b, _, none⟩) h _).setCell (p := ⟨b, _, none⟩) h _).setCell (p := ⟨b, _, none⟩) h _
theorem six_far {w : World} {g o b : Nat} (h : b ≠ g) (u0 u1 u2 u3 u4 u5 : Value) : (six w g o u0 u1 u2 u3 u4 u5).heap[b]? = w.heap[b]? := by
  unfold six
  rw [Below.heap_setCell _ _ _ _ h, Below.heap_setCell _ _ _ _ h, Below.heap_setCell _ _ _ _ h, Below.heap_setCell _ _ _ _ h, Below.heap_setCell _ _ _ _ h, Below.heap_setCell _ _ _ _ h]
theorem six_stay {w : World} {g o : Nat} {F F' : Nat → Prop} (u0 u1 u2 u3 u4 u5 : Value) (h : ∀ b, F b → b ≠ g) (hs : ∀ b, F b → F' b) : Stay w (six w g o u0 u1 u2 u3 u4 u5) F F' :=
  ⟨by unfold six; simp [World.setCell], fun b _ hb => hs b hb, fun b _ hb => six_far (h b hb) _ _ _ _ _ _⟩
/-- what is new behind a first block, and S: not that block -/
theorem sn_ne {S : Nat → Prop} {g : Nat} (hS : ∀ b, S b → b < g) : ∀ b, Sn (g + 1) S b → b ≠ g := fun b h e => by
  rcases h with h | h
  · have := hS b h; omega
  · omega
theorem sn_more {S : Nat → Prop} {g : Nat} : ∀ b, Sn (g + 1) S b → Sn g S b := fun b h => h.imp id fun h => by omega
abbrev zV : Array Value := #[.int .i64 0, .int .i64 0, .string ⟨#[]⟩, .slice none 0 0, .slice none 0 0, .slice none 0 0]

set_option maxRecDepth 100000 in
set_option maxHeartbeats 1000000 in
theorem wrapflow50 (p : ByteArray) (hp : FlowP (kd p)) : WrapC 50 p fun s => .string s.str := by
  intro w S s A m c run hs hne hG hm hS hr
  obtain ⟨t1, t2, t3⟩ := hp.nots
  have hw := wrapT_flow hp s run
  have HR := Lib.hid hr
  have e1 : ∀ b, Sn w.heap.size S b → Sn w.heap.size S b := fun _ h => h
  have hst : ∀ w' : World, Below w.heap.size w w' → RdF w' (Sn w.heap.size S) A m c run := fun w' hb => HR.out.stay (.below hb fun _ _ h => .inl h)
  have HST := Lib.hid hst
  clear hr hG hS hp hst e1
  simp only
  cases s with
  | stay => exact absurd rfl hs
  | item =>
    refine ⟨mk sList run, hw, ?_⟩
    simp only [Srt.str]
    clear hw
    go_enter Try.func50, Try.ntmps50
    go_wp2_with fail
    refine (made47_any _ _ _ _ _).mono ?_
    rintro e w1 ⟨rfl, rfl⟩
    go_wp2_with fail
    exact bodyPost_ret (ret_node rfl _ _ w.heap.size _ rfl ((BoxN.made w _ _).alloc _) rfl) rfl ⟨_, rfl, NdF.made sList (HST.out _ (blOn (blAl _) _)), blOn (blAl _) _⟩
  | row =>
    refine ⟨mk sTable run, hw, ?_⟩
    simp only [Srt.str]
    clear hw
    go_enter Try.func50, Try.ntmps50
    go_wp2_with fail
    refine (made47_any _ _ _ _ _).mono ?_
    rintro e w1 ⟨rfl, rfl⟩
    go_wp2_with fail
    exact bodyPost_ret (ret_node rfl _ _ w.heap.size _ rfl ((BoxN.made w _ _).alloc _) rfl) rfl ⟨_, rfl, NdF.made sTable (HST.out _ (blOn (blAl _) _)), blOn (blAl _) _⟩
  | cell =>
    refine ⟨mk sTable [mk sRow run], hw, ?_⟩
    simp only [Srt.str]
    clear hw
    go_enter Try.func50, Try.ntmps50
    go_wp2_with fail
    refine (made47_any _ _ _ _ _).mono ?_
    rintro e w1 ⟨rfl, rfl⟩
    go_wp2_with fail
    refine (made47_any _ _ _ _ _).mono ?_
    rintro e w1 ⟨rfl, rfl⟩
    go_wp2_with fail
    have h1 : RdF _ (Sn w.heap.size S) (some ⟨w.heap.size + 1 + 1, 0, none⟩) 1 1 [mk sRow run] := RdF.one (w := (w.alloc (.cells #[.int .i64 0, .int .i64 0, .string sTable, .slice none 0 0, .slice none 0 0, .slice (some ⟨w.heap.size + 1 + 1, 0, none⟩) 1 1] 31)).alloc (.cells (mkV sRow A m c) 31)) (S := Sn w.heap.size S) (mkV sRow A m c) (mk sRow run) (NdF.made sRow (HST.out _ (blOn (blAl _) _))) (fun _ _ h => h) (w.heap.size + 1 + 1) (by simp only [World.size_alloc]) (.inr (by omega))
    exact bodyPost_ret (ret_node rfl _ _ w.heap.size _ rfl ((((BoxN.made w _ _).alloc _).alloc _).alloc _) rfl) rfl ⟨_, rfl, NdF.made sTable (h1.stay (.below (blAl _) fun _ _ h => h)), blOn (blOn (blOn (blAl _) _) _) _⟩
  | other =>
    refine ⟨mk sTable [mk sRow run], hw, ?_⟩
    simp only [Srt.str]
    clear hw
    go_enter Try.func50, Try.ntmps50
    go_wp2_with fail
    refine (made47_any _ _ _ _ _).mono ?_
    rintro e w1 ⟨rfl, rfl⟩
    go_wp2_with fail
    refine (made47_any _ _ _ _ _).mono ?_
    rintro e w1 ⟨rfl, rfl⟩
    go_wp2_with fail
    have h1 : RdF _ (Sn w.heap.size S) (some ⟨w.heap.size + 1 + 1, 0, none⟩) 1 1 [mk sRow run] := RdF.one (w := (w.alloc (.cells #[.int .i64 0, .int .i64 0, .string sTable, .slice none 0 0, .slice none 0 0, .slice (some ⟨w.heap.size + 1 + 1, 0, none⟩) 1 1] 31)).alloc (.cells (mkV sRow A m c) 31)) (S := Sn w.heap.size S) (mkV sRow A m c) (mk sRow run) (NdF.made sRow (HST.out _ (blOn (blAl _) _))) (fun _ _ h => h) (w.heap.size + 1 + 1) (by simp only [World.size_alloc]) (.inr (by omega))
    exact bodyPost_ret (ret_node rfl _ _ w.heap.size _ rfl ((((BoxN.made w _ _).alloc _).alloc _).alloc _) rfl) rfl ⟨_, rfl, NdF.made sTable (h1.stay (.below (blAl _) fun _ _ h => h)), blOn (blOn (blOn (blAl _) _) _) _⟩

theorem fitflow40 (p : ByteArray) (hp : FlowP (kd p)) : FitC 40 p := fit40_any p hp.par (wrapflow50 p hp)

set_option maxRecDepth 100000 in
set_option maxHeartbeats 1000000 in
theorem wraplist50 (p : ByteArray) (hp : kd p = .list) : WrapC 50 p fun s => .string s.str := by
  intro w S s A m c run hs hne hG hm hS hr
  have t0 : (p.toList == [108, 105, 115, 116]) = true := by rw [is_list, hp]; rfl
  have t1 : (p.toList == [114, 111, 119]) = false := by rw [is_row, hp]; rfl
  have hw : wrapT (kd p) s run = [mk sItem (fitT (kd sItem) run)] := by
    rw [hp, kdItem, fitT_flow (by simp)]
    cases s <;> first | rfl | exact absurd rfl hs
  refine ⟨_, hw, ?_⟩
  have hB0 : Below w.heap.size w (w.alloc (.cells zV 31)) := blAl _
  have HF := Lib.hid (fitflow40 sItem (by rw [kdItem]; simp [FlowP]) (w.alloc (.cells zV 31)) S A m c run hG hm (fun b h => by have := hS b h; rw [World.size_alloc]; omega) (hr.stay (.below hB0 fun _ _ h => h)))
  have HS := Lib.hid hS
  have X0 := BoxN.made w zV 31
  have HX0 := Lib.hid X0
  have HB0 := Lib.hid hB0
  clear hw hp hG hS hr hB0 X0
  simp only
  generalize s.str = st
  go_enter Try.func50, Try.ntmps50
  go_wp2_with fail
  refine HF.out.mono ?_
  rintro e w1 ⟨A1, n1, c1, rfl, hr1, hB1⟩
  have HX1 := Lib.hid (HX0.out.below hB1 HX0.out.lt)
  have HR1 := Lib.hid hr1
  have HB1 := Lib.hid (HB0.out.trans (hB1.mono HB0.out.size))
  clear hr1 hB1 HF HX0
  go_wp2_with fail
  refine (made47_any _ _ _ _ _).mono ?_
  rintro e w2 ⟨rfl, hw2⟩
  have hX2 : BoxN w2 w.heap.size zV 31 := by rw [hw2]; exact HX1.out.alloc _
  have hR2 : NdF w2 (Sn (w.heap.size + 1) S) (mkV sItem A1 n1 c1).toList (mk sItem (fitT (kd sItem) run)) := by
    rw [hw2]
    exact NdF.made sItem (HR1.out.stay (.below (blAl _) fun b _ h => by rw [World.size_alloc] at h; exact h))
  have hB2 : Below w.heap.size w w2 := by rw [hw2]; exact blOn HB1.out _
  have w2c0 : w2.cell? ⟨w.heap.size, 0, none⟩ = some (.int .i64 0) := hX2.cell (j := 0) rfl
  have w2c1 : w2.cell? ⟨w.heap.size, 1, none⟩ = some (.int .i64 0) := hX2.cell (j := 1) rfl
  have w2c2 : w2.cell? ⟨w.heap.size, 2, none⟩ = some (.string ⟨#[]⟩) := hX2.cell (j := 2) rfl
  have w2c3 : w2.cell? ⟨w.heap.size, 3, none⟩ = some (.slice none 0 0) := hX2.cell (j := 3) rfl
  have w2c4 : w2.cell? ⟨w.heap.size, 4, none⟩ = some (.slice none 0 0) := hX2.cell (j := 4) rfl
  have w2c5 : w2.cell? ⟨w.heap.size, 5, none⟩ = some (.slice none 0 0) := hX2.cell (j := 5) rfl
  have w2f : ∀ jj, w2.frozen? ⟨w.heap.size, jj, none⟩ = false := fun jj => hX2.frozen
  have HX2 := Lib.hid hX2
  have HR2 := Lib.hid hR2
  have HB2 := Lib.hid hB2
  clear hX2 hR2 hB2 hw2 HR1 HB1 HX1 HB0
  go_wp2_with fail
  exact bodyPost_ret (ret_node rfl _ _ w.heap.size _ rfl (HX2.out.six _ _ _ _ _ _) rfl) rfl ⟨_, rfl, HR2.out.stay (six_stay _ _ _ _ _ _ (sn_ne HS.out) sn_more), HB2.out.trans (six_below (Nat.le_refl _) _ _ _ _ _ _)⟩

set_option maxRecDepth 100000 in
set_option maxHeartbeats 1000000 in
theorem wraprow50 (p : ByteArray) (hp : kd p = .row) : WrapC 50 p fun s => .string s.str := by
  intro w S s A m c run hs hne hG hm hS hr
  have t0 : (p.toList == [108, 105, 115, 116]) = false := by rw [is_list, hp]; rfl
  have t1 : (p.toList == [114, 111, 119]) = true := by rw [is_row, hp]; rfl
  have hw : wrapT (kd p) s run = [mk sCell (fitT (kd sCell) run)] := by
    rw [hp, kdCell, fitT_flow (by simp)]
    cases s <;> first | rfl | exact absurd rfl hs
  refine ⟨_, hw, ?_⟩
  have hB0 : Below w.heap.size w (w.alloc (.cells zV 31)) := blAl _
  have HF := Lib.hid (fitflow40 sCell (by rw [kdCell]; simp [FlowP]) (w.alloc (.cells zV 31)) S A m c run hG hm (fun b h => by have := hS b h; rw [World.size_alloc]; omega) (hr.stay (.below hB0 fun _ _ h => h)))
  have HS := Lib.hid hS
  have X0 := BoxN.made w zV 31
  have HX0 := Lib.hid X0
  have HB0 := Lib.hid hB0
  clear hw hp hG hS hr hB0 X0
  simp only
  generalize s.str = st
  go_enter Try.func50, Try.ntmps50
  go_wp2_with fail
  refine HF.out.mono ?_
  rintro e w1 ⟨A1, n1, c1, rfl, hr1, hB1⟩
  have HX1 := Lib.hid (HX0.out.below hB1 HX0.out.lt)
  have HR1 := Lib.hid hr1
  have HB1 := Lib.hid (HB0.out.trans (hB1.mono HB0.out.size))
  clear hr1 hB1 HF HX0
  go_wp2_with fail
  refine (made47_any _ _ _ _ _).mono ?_
  rintro e w2 ⟨rfl, hw2⟩
  have hX2 : BoxN w2 w.heap.size zV 31 := by rw [hw2]; exact HX1.out.alloc _
  have hR2 : NdF w2 (Sn (w.heap.size + 1) S) (mkV sCell A1 n1 c1).toList (mk sCell (fitT (kd sCell) run)) := by
    rw [hw2]
    exact NdF.made sCell (HR1.out.stay (.below (blAl _) fun b _ h => by rw [World.size_alloc] at h; exact h))
  have hB2 : Below w.heap.size w w2 := by rw [hw2]; exact blOn HB1.out _
  have w2c0 : w2.cell? ⟨w.heap.size, 0, none⟩ = some (.int .i64 0) := hX2.cell (j := 0) rfl
  have w2c1 : w2.cell? ⟨w.heap.size, 1, none⟩ = some (.int .i64 0) := hX2.cell (j := 1) rfl
  have w2c2 : w2.cell? ⟨w.heap.size, 2, none⟩ = some (.string ⟨#[]⟩) := hX2.cell (j := 2) rfl
  have w2c3 : w2.cell? ⟨w.heap.size, 3, none⟩ = some (.slice none 0 0) := hX2.cell (j := 3) rfl
  have w2c4 : w2.cell? ⟨w.heap.size, 4, none⟩ = some (.slice none 0 0) := hX2.cell (j := 4) rfl
  have w2c5 : w2.cell? ⟨w.heap.size, 5, none⟩ = some (.slice none 0 0) := hX2.cell (j := 5) rfl
  have w2f : ∀ jj, w2.frozen? ⟨w.heap.size, jj, none⟩ = false := fun jj => hX2.frozen
  have HX2 := Lib.hid hX2
  have HR2 := Lib.hid hR2
  have HB2 := Lib.hid hB2
  clear hX2 hR2 hB2 hw2 HR1 HB1 HX1 HB0
  go_wp2_with fail
  exact bodyPost_ret (ret_node rfl _ _ w.heap.size _ rfl (HX2.out.six _ _ _ _ _ _) rfl) rfl ⟨_, rfl, HR2.out.stay (six_stay _ _ _ _ _ _ (sn_ne HS.out) sn_more), HB2.out.trans (six_below (Nat.le_refl _) _ _ _ _ _ _)⟩

set_option maxRecDepth 100000 in
set_option maxHeartbeats 1000000 in
theorem wraptable50 (p : ByteArray) (hp : kd p = .table) : WrapC 50 p fun s => .string s.str := by
  intro w S s A m c run hs hne hG hm hS hr
  have t0 : (p.toList == [108, 105, 115, 116]) = false := by rw [is_list, hp]; rfl
  have t1 : (p.toList == [114, 111, 119]) = false := by rw [is_row, hp]; rfl
  have t2 : (p.toList == [116, 97, 98, 108, 101]) = true := by rw [is_table, hp]; rfl
  by_cases hsc : s = .cell
  · subst hsc
    refine ⟨mk sRow run, by rw [hp]; rfl, ?_⟩
    have HR := Lib.hid hr
    clear hr hG hS hp
    simp only [Srt.str, Srt.code]
    go_enter Try.func50, Try.ntmps50
    go_wp2_with fail
    refine (made47_any _ _ _ _ _).mono ?_
    rintro e w1 ⟨rfl, rfl⟩
    go_wp2_with fail
    exact bodyPost_ret (ret_node rfl _ _ w.heap.size _ rfl ((BoxN.made w _ _).alloc _) rfl) rfl ⟨_, rfl, NdF.made sRow (HR.out.stay (.below (blOn (blAl _) _) fun _ _ h => .inl h)), blOn (blAl _) _⟩
  have hw : wrapT (kd p) s run = [mk sRow [mk sCell (fitT (kd sCell) run)]] := by
    rw [hp, kdCell, fitT_flow (by simp)]
    cases s <;> first | rfl | exact absurd rfl hs | exact absurd rfl hsc
  refine ⟨_, hw, ?_⟩
  have hB0 : Below w.heap.size w (w.alloc (.cells zV 31)) := blAl _
  have HF := Lib.hid (fitflow40 sCell (by rw [kdCell]; simp [FlowP]) (w.alloc (.cells zV 31)) S A m c run hG hm (fun b h => by have := hS b h; rw [World.size_alloc]; omega) (hr.stay (.below hB0 fun _ _ h => h)))
  have HS := Lib.hid hS
  have X0 := BoxN.made w zV 31
  have HX0 := Lib.hid X0
  have HB0 := Lib.hid hB0
  simp only
  have t3 : (s.str.toList == [99, 101, 108, 108]) = false := by
    rw [ByteArray.toList_eq]
    cases s <;> first | rfl | exact absurd rfl hsc
  generalize s.str = st at *
  clear hw hp hG hS hr hB0 X0
  go_enter Try.func50, Try.ntmps50
  go_wp2_with fail
  refine HF.out.mono ?_
  rintro e w1 ⟨A1, n1, c1, rfl, hr1, hB1⟩
  have HX1 := Lib.hid (HX0.out.below hB1 HX0.out.lt)
  have HR1 := Lib.hid hr1
  have HB1 := Lib.hid (HB0.out.trans (hB1.mono HB0.out.size))
  clear hr1 hB1 HF HX0
  go_wp2_with fail
  refine (made47_any _ _ _ _ _).mono ?_
  rintro e w2 ⟨rfl, hw2⟩
  have HX2 : Hid (BoxN w2 w.heap.size zV 31) := Lib.hid (by rw [hw2]; exact HX1.out.alloc _)
  have HR2 : Hid (NdF w2 (Sn (w.heap.size + 1) S) (mkV sCell A1 n1 c1).toList (mk sCell (fitT (kd sCell) run))) := Lib.hid (by
    rw [hw2]
    exact NdF.made sCell (HR1.out.stay (.below (blAl _) fun b _ h => by rw [World.size_alloc] at h; exact h)))
  have HB2 : Hid (Below w.heap.size w w2) := Lib.hid (by rw [hw2]; exact blOn HB1.out _)
  clear hw2 HR1 HB1 HX1 HB0
  go_wp2_with fail
  refine (made47_any _ _ _ _ _).mono ?_
  rintro e w4 ⟨rfl, hw4⟩
  have hX4 : BoxN w4 w.heap.size zV 31 := by rw [hw4]; exact (HX2.out.alloc _).alloc _
  have hR4 : NdF w4 (Sn (w.heap.size + 1) S) (mkV sRow (some ⟨w2.heap.size, 0, none⟩) 1 1).toList (mk sRow [mk sCell (fitT (kd sCell) run)]) := by
    rw [hw4]
    exact NdF.made sRow ((RdF.one (S := Sn (w.heap.size + 1) S) (S' := Sn (w.heap.size + 1) S) _ _ HR2.out (fun _ _ h => h) w2.heap.size rfl (.inr HX2.out.lt)).stay (.below (blAl _) fun _ _ h => h))
  have hB4 : Below w.heap.size w w4 := by rw [hw4]; exact blOn (blOn HB2.out _) _
  have w4c0 : w4.cell? ⟨w.heap.size, 0, none⟩ = some (.int .i64 0) := hX4.cell (j := 0) rfl
  have w4c1 : w4.cell? ⟨w.heap.size, 1, none⟩ = some (.int .i64 0) := hX4.cell (j := 1) rfl
  have w4c2 : w4.cell? ⟨w.heap.size, 2, none⟩ = some (.string ⟨#[]⟩) := hX4.cell (j := 2) rfl
  have w4c3 : w4.cell? ⟨w.heap.size, 3, none⟩ = some (.slice none 0 0) := hX4.cell (j := 3) rfl
  have w4c4 : w4.cell? ⟨w.heap.size, 4, none⟩ = some (.slice none 0 0) := hX4.cell (j := 4) rfl
  have w4c5 : w4.cell? ⟨w.heap.size, 5, none⟩ = some (.slice none 0 0) := hX4.cell (j := 5) rfl
  have w4f : ∀ jj, w4.frozen? ⟨w.heap.size, jj, none⟩ = false := fun jj => hX4.frozen
  have HX4 := Lib.hid hX4
  have HR4 := Lib.hid hR4
  have HB4 := Lib.hid hB4
  clear hX4 hR4 hB4 hw4 HR2 HB2 HX2
  go_wp2_with fail
  exact bodyPost_ret (ret_node rfl _ _ w.heap.size _ rfl (HX4.out.six _ _ _ _ _ _) rfl) rfl ⟨_, rfl, HR4.out.stay (six_stay _ _ _ _ _ _ (sn_ne HS.out) sn_more), HB4.out.trans (six_below (Nat.le_refl _) _ _ _ _ _ _)⟩

theorem wrap50_any (p : ByteArray) (hp : Par (kd p)) : WrapC 50 p fun s => .string s.str := by
  rcases hp with h | h | h | h | h | h | h
  · exact wrapflow50 p (.inl h)
  · exact wrapflow50 p (.inr (.inl h))
  · exact wrapflow50 p (.inr (.inr (.inl h)))
  · exact wrapflow50 p (.inr (.inr (.inr h)))
  · exact wraplist50 p h
  · exact wraprow50 p h
  · exact wraptable50 p h
/-- FIT, OF THE PROGRAM -/
theorem fitP (p : ByteArray) (hp : Par (kd p)) : FitC 40 p := fit40_any p hp (wrap50_any p hp)
end Go.Proofs.Ytcdhndhgainadaa
