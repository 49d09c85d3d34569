/-
  The contract of the program's node.
-/
import Derived.Test.YtcdhndhgainadaaOpenF
namespace Go.Proofs.Ytcdhndhgainadaa
open Go Go.RowKit
set_option linter.unusedVariables false
set_option linter.unusedSimpArgs false

set_option maxRecDepth 100000 in
set_option maxHeartbeats 2000000 in
theorem node51_item (N : Nat) (hR : RowC 41 N) (n r : Int) (k : ByteArray) (at_ : List Att) (tx : List Pce) (ks : List RT) (hk : kd k = .item) (h1 : rsizeL ks < N) (h2 : rsizeL ks ≤ 100000)
    (w : World) (S : Nat → Prop) (AA : Option Addr) (an ac : Nat) (TA : Option Addr) (tn tc : Nat) (A : Option Addr) (m c : Nat) (hS : ∀ b, S b → b < w.heap.size) (ha : RdAF w S AA an ac at_) (hp : RdPF w S TA tn tc tx) (hks : RdF w S A m c ks) :
    Calls Try.prog 51 #[.agg #[.int .i64 n, .int .i64 r, .string k, .slice AA an ac, .slice TA tn tc, .slice A m c]] w (GivesR w S (nodeK n r k at_ tx (rowT ks))) := by
  have hB0 : Below w.heap.size w (w.alloc (.cells #[.int .i64 n, .int .i64 r, .string k, .slice AA an ac, .slice TA tn tc, .slice A m c] 31)) := blAl _
  have hF : ∀ b, w.heap.size + 1 ≤ b → Sn (w.heap.size + 1) S b := fun b h => .inr h
  have hs0 : (w.alloc (.cells #[.int .i64 n, .int .i64 r, .string k, .slice AA an ac, .slice TA tn tc, .slice A m c] 31)).heap.size = w.heap.size + 1 := World.size_alloc _ _
  have HC := Lib.hid (row_open (W := w.alloc (.cells #[.int .i64 n, .int .i64 r, .string k, .slice AA an ac, .slice TA tn tc, .slice A m c] 31)) (F := Sn (w.heap.size + 1) S) hR h1 h2 (fun b h => hF b (by rw [← hs0]; exact h)) (hks.stay (.below hB0 fun _ _ h => .inl h)))
  have hKL : (rowT ks).length ≤ 500000 := Nat.le_trans (rowT_len ks) (by omega)
  have hKG := rowT_good ks
  have X0 := BoxN.made w #[.int .i64 n, .int .i64 r, .string k, .slice AA an ac, .slice TA tn tc, .slice A m c] 31
  have HX0 := Lib.hid X0
  have HS := Lib.hid hS
  have HA := Lib.hid ha
  have HP := Lib.hid hp
  have HB0 := Lib.hid hB0
  have HF := Lib.hid hF
  have HS0 := Lib.hid hs0
  have HKL := Lib.hid hKL
  have HKG := Lib.hid hKG
  generalize rowT ks = K at *
  clear hS ha hp hks hB0 hF hs0 hKL hKG X0 hR h1 h2
  have qitem : (k.toList == [105, 116, 101, 109]) = true := by rw [is_item, hk]; rfl
  have qcell : (k.toList == [99, 101, 108, 108]) = false := by rw [is_cell, hk]; rfl
  have qquote : (k.toList == [113, 117, 111, 116, 101]) = false := by rw [is_quote, hk]; rfl
  have qlist : (k.toList == [108, 105, 115, 116]) = false := by rw [is_list, hk]; rfl
  have qtable : (k.toList == [116, 97, 98, 108, 101]) = false := by rw [is_table, hk]; rfl
  have qrow : (k.toList == [114, 111, 119]) = false := by rw [is_row, hk]; rfl
  have qhead : (k.toList == [104, 101, 97, 100]) = false := by rw [is_head, hk]; rfl
  have hw : nodeK n r k at_ tx K = [.node n r k at_ tx (fitT (kd k) K)] := by unfold nodeK; rw [hk]
  rw [hw]
  have hpar : Par (kd k) := by rw [hk]; simp [Par]
  have HPAR := Lib.hid hpar
  clear hw hk hpar
  go_enter Try.func51, Try.ntmps51
  go_wp2_with fail
  refine HC.out.mono ?_
  rintro e w1 ⟨A1, n1, c1, rfl, hr1, hB1⟩
  have hX1 := HX0.out.below hB1 HX0.out.lt
  have HX1 := Lib.hid hX1
  have HB1 := Lib.hid (HB0.out.trans (hB1.mono HB0.out.size))
  have HZ1 : Hid (w.heap.size + 1 ≤ w1.heap.size) := Lib.hid (by have := hB1.size; rw [HS0.out] at this; exact this)
  have HR1 := Lib.hid hr1
  have w1c0 : w1.cell? ⟨w.heap.size, 0, none⟩ = some (.int .i64 n) := hX1.cell (j := 0) rfl
  have w1c1 : w1.cell? ⟨w.heap.size, 1, none⟩ = some (.int .i64 r) := hX1.cell (j := 1) rfl
  have w1c2 : w1.cell? ⟨w.heap.size, 2, none⟩ = some (.string k) := hX1.cell (j := 2) rfl
  have w1c3 : w1.cell? ⟨w.heap.size, 3, none⟩ = some (.slice AA an ac) := hX1.cell (j := 3) rfl
  have w1c4 : w1.cell? ⟨w.heap.size, 4, none⟩ = some (.slice TA tn tc) := hX1.cell (j := 4) rfl
  have w1c5 : w1.cell? ⟨w.heap.size, 5, none⟩ = some (.slice A m c) := hX1.cell (j := 5) rfl
  have w1f : ∀ jj, w1.frozen? ⟨w.heap.size, jj, none⟩ = false := fun jj => hX1.frozen
  clear hX1 hr1 hB1 HC HX0 HB0
  go_wp2_with fail
  have hsz : (w1.setCell ⟨w.heap.size, 5, none⟩ (.slice none 0 0)).heap.size = w1.heap.size := by simp [World.setCell]
  refine (fit_open (F := Sn (w.heap.size + 1) S) (fitP k HPAR.out) HKG.out (by have := HR1.out.length; have := HKL.out; omega) (fun b h => HF.out b (by have := HZ1.out; omega)) (HR1.out.stay (set_stay _ (sn_ne HS.out) fun _ h => h))).mono ?_
  rintro e w2 ⟨A2, n2, c2, rfl, hr2, hB2⟩
  have hX1s : BoxN (w1.setCell ⟨w.heap.size, 5, none⟩ (.slice none 0 0)) w.heap.size #[.int .i64 n, .int .i64 r, .string k, .slice AA an ac, .slice TA tn tc, .slice none 0 0] 31 := HX1.out.setAt 5 (.slice none 0 0)
  have hX2 := hX1s.below hB2 hX1s.lt
  have hB3 : Below w.heap.size w w2 := (HB1.out.setCell (p := ⟨w.heap.size, 5, none⟩) (Nat.le_refl _) _).trans (hB2.mono (by have := HZ1.out; omega))
  have HX2 := Lib.hid hX2
  have HB2 := Lib.hid hB3
  have HR2 := Lib.hid hr2
  have w2c0 : w2.cell? ⟨w.heap.size, 0, none⟩ = some (.int .i64 n) := hX2.cell (j := 0) rfl
  have w2c1 : w2.cell? ⟨w.heap.size, 1, none⟩ = some (.int .i64 r) := hX2.cell (j := 1) rfl
  have w2c2 : w2.cell? ⟨w.heap.size, 2, none⟩ = some (.string k) := hX2.cell (j := 2) rfl
  have w2c3 : w2.cell? ⟨w.heap.size, 3, none⟩ = some (.slice AA an ac) := hX2.cell (j := 3) rfl
  have w2c4 : w2.cell? ⟨w.heap.size, 4, none⟩ = some (.slice TA tn tc) := hX2.cell (j := 4) rfl
  have w2c5 : w2.cell? ⟨w.heap.size, 5, none⟩ = some (.slice none 0 0) := hX2.cell (j := 5) rfl
  have w2f : ∀ jj, w2.frozen? ⟨w.heap.size, jj, none⟩ = false := fun jj => hX2.frozen
  clear hX1s hX2 hB2 hB3 hr2 hsz w1c0 w1c1 w1c2 w1c3 w1c4 w1c5 w1f
  go_wp2_with fail
  go_ret
  have hBf := (HB2.out.setCell (p := ⟨w.heap.size, 5, none⟩) (Nat.le_refl _) (.slice A2 n2 c2))
  have hv : NdF (w2.setCell ⟨w.heap.size, 5, none⟩ (.slice A2 n2 c2)) (Sn (w.heap.size + 1) S) [.int .i64 n, .int .i64 r, .string k, .slice AA an ac, .slice TA tn tc, .slice A2 n2 c2] (.node n r k at_ tx (fitT (kd k) K)) := NdF.node (HA.out.stay (.beneath hBf (fun b _ h => HS.out b h) fun _ _ h => .inl h)) (HP.out.stay (.beneath hBf (fun b _ h => HS.out b h) fun _ _ h => .inl h)) (HR2.out.stay (set_stay _ (sn_ne HS.out) fun _ h => h))
  have hv2 : NdF (w2.setCell ⟨w.heap.size, 5, none⟩ (.slice A2 n2 c2)) (Sn (w.heap.size + 1) S) (#[.int .i64 n, .int .i64 r, .string k, .slice AA an ac, .slice TA tn tc, .slice A2 n2 c2] : Array Value).toList (.node n r k at_ tx (fitT (kd k) K)) := hv
  refine ⟨_, _, _, rfl, RdF.one (w := (w2.setCell ⟨w.heap.size, 5, none⟩ (.slice A2 n2 c2))) (S := Sn (w.heap.size + 1) S) (S' := Sn w.heap.size S) #[.int .i64 n, .int .i64 r, .string k, .slice AA an ac, .slice TA tn tc, .slice A2 n2 c2] (.node n r k at_ tx (fitT (kd k) K)) hv2 (fun b _ h => sn_more b h) _ (by simp [World.setCell]) (.inr (by have := HX2.out.lt; omega)), hBf.alloc hBf.size _⟩

set_option maxRecDepth 100000 in
set_option maxHeartbeats 2000000 in
theorem node51_cell (N : Nat) (hR : RowC 41 N) (n r : Int) (k : ByteArray) (at_ : List Att) (tx : List Pce) (ks : List RT) (hk : kd k = .cell) (h1 : rsizeL ks < N) (h2 : rsizeL ks ≤ 100000)
    (w : World) (S : Nat → Prop) (AA : Option Addr) (an ac : Nat) (TA : Option Addr) (tn tc : Nat) (A : Option Addr) (m c : Nat) (hS : ∀ b, S b → b < w.heap.size) (ha : RdAF w S AA an ac at_) (hp : RdPF w S TA tn tc tx) (hks : RdF w S A m c ks) :
    Calls Try.prog 51 #[.agg #[.int .i64 n, .int .i64 r, .string k, .slice AA an ac, .slice TA tn tc, .slice A m c]] w (GivesR w S (nodeK n r k at_ tx (rowT ks))) := by
  have hB0 : Below w.heap.size w (w.alloc (.cells #[.int .i64 n, .int .i64 r, .string k, .slice AA an ac, .slice TA tn tc, .slice A m c] 31)) := blAl _
  have hF : ∀ b, w.heap.size + 1 ≤ b → Sn (w.heap.size + 1) S b := fun b h => .inr h
  have hs0 : (w.alloc (.cells #[.int .i64 n, .int .i64 r, .string k, .slice AA an ac, .slice TA tn tc, .slice A m c] 31)).heap.size = w.heap.size + 1 := World.size_alloc _ _
  have HC := Lib.hid (row_open (W := w.alloc (.cells #[.int .i64 n, .int .i64 r, .string k, .slice AA an ac, .slice TA tn tc, .slice A m c] 31)) (F := Sn (w.heap.size + 1) S) hR h1 h2 (fun b h => hF b (by rw [← hs0]; exact h)) (hks.stay (.below hB0 fun _ _ h => .inl h)))
  have hKL : (rowT ks).length ≤ 500000 := Nat.le_trans (rowT_len ks) (by omega)
  have hKG := rowT_good ks
  have X0 := BoxN.made w #[.int .i64 n, .int .i64 r, .string k, .slice AA an ac, .slice TA tn tc, .slice A m c] 31
  have HX0 := Lib.hid X0
  have HS := Lib.hid hS
  have HA := Lib.hid ha
  have HP := Lib.hid hp
  have HB0 := Lib.hid hB0
  have HF := Lib.hid hF
  have HS0 := Lib.hid hs0
  have HKL := Lib.hid hKL
  have HKG := Lib.hid hKG
  generalize rowT ks = K at *
  clear hS ha hp hks hB0 hF hs0 hKL hKG X0 hR h1 h2
  have qitem : (k.toList == [105, 116, 101, 109]) = false := by rw [is_item, hk]; rfl
  have qcell : (k.toList == [99, 101, 108, 108]) = true := by rw [is_cell, hk]; rfl
  have qquote : (k.toList == [113, 117, 111, 116, 101]) = false := by rw [is_quote, hk]; rfl
  have qlist : (k.toList == [108, 105, 115, 116]) = false := by rw [is_list, hk]; rfl
  have qtable : (k.toList == [116, 97, 98, 108, 101]) = false := by rw [is_table, hk]; rfl
  have qrow : (k.toList == [114, 111, 119]) = false := by rw [is_row, hk]; rfl
  have qhead : (k.toList == [104, 101, 97, 100]) = false := by rw [is_head, hk]; rfl
  have hw : nodeK n r k at_ tx K = [.node n r k at_ tx (fitT (kd k) K)] := by unfold nodeK; rw [hk]
  rw [hw]
  have hpar : Par (kd k) := by rw [hk]; simp [Par]
  have HPAR := Lib.hid hpar
  clear hw hk hpar
  go_enter Try.func51, Try.ntmps51
  go_wp2_with fail
  refine HC.out.mono ?_
  rintro e w1 ⟨A1, n1, c1, rfl, hr1, hB1⟩
  have hX1 := HX0.out.below hB1 HX0.out.lt
  have HX1 := Lib.hid hX1
  have HB1 := Lib.hid (HB0.out.trans (hB1.mono HB0.out.size))
  have HZ1 : Hid (w.heap.size + 1 ≤ w1.heap.size) := Lib.hid (by have := hB1.size; rw [HS0.out] at this; exact this)
  have HR1 := Lib.hid hr1
  have w1c0 : w1.cell? ⟨w.heap.size, 0, none⟩ = some (.int .i64 n) := hX1.cell (j := 0) rfl
  have w1c1 : w1.cell? ⟨w.heap.size, 1, none⟩ = some (.int .i64 r) := hX1.cell (j := 1) rfl
  have w1c2 : w1.cell? ⟨w.heap.size, 2, none⟩ = some (.string k) := hX1.cell (j := 2) rfl
  have w1c3 : w1.cell? ⟨w.heap.size, 3, none⟩ = some (.slice AA an ac) := hX1.cell (j := 3) rfl
  have w1c4 : w1.cell? ⟨w.heap.size, 4, none⟩ = some (.slice TA tn tc) := hX1.cell (j := 4) rfl
  have w1c5 : w1.cell? ⟨w.heap.size, 5, none⟩ = some (.slice A m c) := hX1.cell (j := 5) rfl
  have w1f : ∀ jj, w1.frozen? ⟨w.heap.size, jj, none⟩ = false := fun jj => hX1.frozen
  clear hX1 hr1 hB1 HC HX0 HB0
  go_wp2_with fail
  have hsz : (w1.setCell ⟨w.heap.size, 5, none⟩ (.slice none 0 0)).heap.size = w1.heap.size := by simp [World.setCell]
  refine (fit_open (F := Sn (w.heap.size + 1) S) (fitP k HPAR.out) HKG.out (by have := HR1.out.length; have := HKL.out; omega) (fun b h => HF.out b (by have := HZ1.out; omega)) (HR1.out.stay (set_stay _ (sn_ne HS.out) fun _ h => h))).mono ?_
  rintro e w2 ⟨A2, n2, c2, rfl, hr2, hB2⟩
  have hX1s : BoxN (w1.setCell ⟨w.heap.size, 5, none⟩ (.slice none 0 0)) w.heap.size #[.int .i64 n, .int .i64 r, .string k, .slice AA an ac, .slice TA tn tc, .slice none 0 0] 31 := HX1.out.setAt 5 (.slice none 0 0)
  have hX2 := hX1s.below hB2 hX1s.lt
  have hB3 : Below w.heap.size w w2 := (HB1.out.setCell (p := ⟨w.heap.size, 5, none⟩) (Nat.le_refl _) _).trans (hB2.mono (by have := HZ1.out; omega))
  have HX2 := Lib.hid hX2
  have HB2 := Lib.hid hB3
  have HR2 := Lib.hid hr2
  have w2c0 : w2.cell? ⟨w.heap.size, 0, none⟩ = some (.int .i64 n) := hX2.cell (j := 0) rfl
  have w2c1 : w2.cell? ⟨w.heap.size, 1, none⟩ = some (.int .i64 r) := hX2.cell (j := 1) rfl
  have w2c2 : w2.cell? ⟨w.heap.size, 2, none⟩ = some (.string k) := hX2.cell (j := 2) rfl
  have w2c3 : w2.cell? ⟨w.heap.size, 3, none⟩ = some (.slice AA an ac) := hX2.cell (j := 3) rfl
  have w2c4 : w2.cell? ⟨w.heap.size, 4, none⟩ = some (.slice TA tn tc) := hX2.cell (j := 4) rfl
  have w2c5 : w2.cell? ⟨w.heap.size, 5, none⟩ = some (.slice none 0 0) := hX2.cell (j := 5) rfl
  have w2f : ∀ jj, w2.frozen? ⟨w.heap.size, jj, none⟩ = false := fun jj => hX2.frozen
  clear hX1s hX2 hB2 hB3 hr2 hsz w1c0 w1c1 w1c2 w1c3 w1c4 w1c5 w1f
  go_wp2_with fail
  go_ret
  have hBf := (HB2.out.setCell (p := ⟨w.heap.size, 5, none⟩) (Nat.le_refl _) (.slice A2 n2 c2))
  have hv : NdF (w2.setCell ⟨w.heap.size, 5, none⟩ (.slice A2 n2 c2)) (Sn (w.heap.size + 1) S) [.int .i64 n, .int .i64 r, .string k, .slice AA an ac, .slice TA tn tc, .slice A2 n2 c2] (.node n r k at_ tx (fitT (kd k) K)) := NdF.node (HA.out.stay (.beneath hBf (fun b _ h => HS.out b h) fun _ _ h => .inl h)) (HP.out.stay (.beneath hBf (fun b _ h => HS.out b h) fun _ _ h => .inl h)) (HR2.out.stay (set_stay _ (sn_ne HS.out) fun _ h => h))
  have hv2 : NdF (w2.setCell ⟨w.heap.size, 5, none⟩ (.slice A2 n2 c2)) (Sn (w.heap.size + 1) S) (#[.int .i64 n, .int .i64 r, .string k, .slice AA an ac, .slice TA tn tc, .slice A2 n2 c2] : Array Value).toList (.node n r k at_ tx (fitT (kd k) K)) := hv
  refine ⟨_, _, _, rfl, RdF.one (w := (w2.setCell ⟨w.heap.size, 5, none⟩ (.slice A2 n2 c2))) (S := Sn (w.heap.size + 1) S) (S' := Sn w.heap.size S) #[.int .i64 n, .int .i64 r, .string k, .slice AA an ac, .slice TA tn tc, .slice A2 n2 c2] (.node n r k at_ tx (fitT (kd k) K)) hv2 (fun b _ h => sn_more b h) _ (by simp [World.setCell]) (.inr (by have := HX2.out.lt; omega)), hBf.alloc hBf.size _⟩

set_option maxRecDepth 100000 in
set_option maxHeartbeats 2000000 in
theorem node51_head (N : Nat) (hR : RowC 41 N) (n r : Int) (k : ByteArray) (at_ : List Att) (tx : List Pce) (ks : List RT) (hk : kd k = .head) (h1 : rsizeL ks < N) (h2 : rsizeL ks ≤ 100000)
    (w : World) (S : Nat → Prop) (AA : Option Addr) (an ac : Nat) (TA : Option Addr) (tn tc : Nat) (A : Option Addr) (m c : Nat) (hS : ∀ b, S b → b < w.heap.size) (ha : RdAF w S AA an ac at_) (hp : RdPF w S TA tn tc tx) (hks : RdF w S A m c ks) :
    Calls Try.prog 51 #[.agg #[.int .i64 n, .int .i64 r, .string k, .slice AA an ac, .slice TA tn tc, .slice A m c]] w (GivesR w S (nodeK n r k at_ tx (rowT ks))) := by
  have hB0 : Below w.heap.size w (w.alloc (.cells #[.int .i64 n, .int .i64 r, .string k, .slice AA an ac, .slice TA tn tc, .slice A m c] 31)) := blAl _
  have hF : ∀ b, w.heap.size + 1 ≤ b → Sn (w.heap.size + 1) S b := fun b h => .inr h
  have hs0 : (w.alloc (.cells #[.int .i64 n, .int .i64 r, .string k, .slice AA an ac, .slice TA tn tc, .slice A m c] 31)).heap.size = w.heap.size + 1 := World.size_alloc _ _
  have HC := Lib.hid (row_open (W := w.alloc (.cells #[.int .i64 n, .int .i64 r, .string k, .slice AA an ac, .slice TA tn tc, .slice A m c] 31)) (F := Sn (w.heap.size + 1) S) hR h1 h2 (fun b h => hF b (by rw [← hs0]; exact h)) (hks.stay (.below hB0 fun _ _ h => .inl h)))
  have hKL : (rowT ks).length ≤ 500000 := Nat.le_trans (rowT_len ks) (by omega)
  have hKG := rowT_good ks
  have X0 := BoxN.made w #[.int .i64 n, .int .i64 r, .string k, .slice AA an ac, .slice TA tn tc, .slice A m c] 31
  have HX0 := Lib.hid X0
  have HS := Lib.hid hS
  have HA := Lib.hid ha
  have HP := Lib.hid hp
  have HB0 := Lib.hid hB0
  have HF := Lib.hid hF
  have HS0 := Lib.hid hs0
  have HKL := Lib.hid hKL
  have HKG := Lib.hid hKG
  generalize rowT ks = K at *
  clear hS ha hp hks hB0 hF hs0 hKL hKG X0 hR h1 h2
  have qitem : (k.toList == [105, 116, 101, 109]) = false := by rw [is_item, hk]; rfl
  have qcell : (k.toList == [99, 101, 108, 108]) = false := by rw [is_cell, hk]; rfl
  have qquote : (k.toList == [113, 117, 111, 116, 101]) = false := by rw [is_quote, hk]; rfl
  have qlist : (k.toList == [108, 105, 115, 116]) = false := by rw [is_list, hk]; rfl
  have qtable : (k.toList == [116, 97, 98, 108, 101]) = false := by rw [is_table, hk]; rfl
  have qrow : (k.toList == [114, 111, 119]) = false := by rw [is_row, hk]; rfl
  have qhead : (k.toList == [104, 101, 97, 100]) = true := by rw [is_head, hk]; rfl
  have hw : nodeK n r k at_ tx K = (RT.node n r k at_ tx []) :: K := by unfold nodeK; rw [hk]
  rw [hw]
  clear hw hk
  go_enter Try.func51, Try.ntmps51
  go_wp2_with fail
  refine HC.out.mono ?_
  rintro e w1 ⟨A1, n1, c1, rfl, hr1, hB1⟩
  have hX1 := HX0.out.below hB1 HX0.out.lt
  have HX1 := Lib.hid hX1
  have HB1 := Lib.hid (HB0.out.trans (hB1.mono HB0.out.size))
  have HZ1 : Hid (w.heap.size + 1 ≤ w1.heap.size) := Lib.hid (by have := hB1.size; rw [HS0.out] at this; exact this)
  have HR1 := Lib.hid hr1
  have w1c0 : w1.cell? ⟨w.heap.size, 0, none⟩ = some (.int .i64 n) := hX1.cell (j := 0) rfl
  have w1c1 : w1.cell? ⟨w.heap.size, 1, none⟩ = some (.int .i64 r) := hX1.cell (j := 1) rfl
  have w1c2 : w1.cell? ⟨w.heap.size, 2, none⟩ = some (.string k) := hX1.cell (j := 2) rfl
  have w1c3 : w1.cell? ⟨w.heap.size, 3, none⟩ = some (.slice AA an ac) := hX1.cell (j := 3) rfl
  have w1c4 : w1.cell? ⟨w.heap.size, 4, none⟩ = some (.slice TA tn tc) := hX1.cell (j := 4) rfl
  have w1c5 : w1.cell? ⟨w.heap.size, 5, none⟩ = some (.slice A m c) := hX1.cell (j := 5) rfl
  have w1f : ∀ jj, w1.frozen? ⟨w.heap.size, jj, none⟩ = false := fun jj => hX1.frozen
  clear hX1 hr1 hB1 HC HX0 HB0
  have hsz : (w1.setCell ⟨w.heap.size, 5, none⟩ (.slice none 0 0)).heap.size = w1.heap.size := by simp [World.setCell]
  have hBf : Below w.heap.size w (w1.setCell ⟨w.heap.size, 5, none⟩ (.slice none 0 0)) := (HB1.out.setCell (p := ⟨w.heap.size, 5, none⟩) (Nat.le_refl _) _)
  have hv : NdF (w1.setCell ⟨w.heap.size, 5, none⟩ (.slice none 0 0)) S (#[.int .i64 n, .int .i64 r, .string k, .slice AA an ac, .slice TA tn tc, .slice none 0 0] : Array Value).toList (RT.node n r k at_ tx []) := NdF.node (HA.out.stay (.beneath hBf (fun b _ h => HS.out b h) fun _ _ h => h)) (HP.out.stay (.beneath hBf (fun b _ h => HS.out b h) fun _ _ h => h)) (RdF.nil _ _)
  have HV := Lib.hid hv
  clear hv
  have hrow := Row.one (S := S) (n₀ := w.heap.size) _ _ HV.out (fun b _ h => .inl h) w1.heap.size hsz (by have := HZ1.out; omega)
  have hK : RdF ((w1.setCell ⟨w.heap.size, 5, none⟩ (.slice none 0 0)).alloc (.cells #[.int .i64 n, .int .i64 r, .string k, .slice AA an ac, .slice TA tn tc, .slice none 0 0] 31)) (fun b => Sn (w.heap.size + 1) S b ∧ b < w1.heap.size) A1 n1 c1 K :=
    ((HR1.out.stay (.weaken w1 fun b hb h => ⟨h, hb⟩) : RdF w1 (fun b => Sn (w.heap.size + 1) S b ∧ b < w1.heap.size) A1 n1 c1 K).stay (set_stay _ (fun b h => sn_ne HS.out b h.1) fun _ h => h)).stay (.below (blAl _) fun _ _ h => h)
  obtain ⟨zK, hzK, hZK⟩ := hK.z
  have hsub : ∀ b, b < ((w1.setCell ⟨w.heap.size, 5, none⟩ (.slice none 0 0)).alloc (.cells #[.int .i64 n, .int .i64 r, .string k, .slice AA an ac, .slice TA tn tc, .slice none 0 0] 31)).heap.size → (Sn (w.heap.size + 1) S b ∧ b < w1.heap.size) → Sx w.heap.size S (.slice (some ⟨w1.heap.size, 0, none⟩) 1 1) b := fun b _ h => ⟨sn_more b h.1, fun e => by
    have h2 := h.2
    simp [Value.ownBlock] at e
    omega⟩
  have hbal : Below w.heap.size w ((w1.setCell ⟨w.heap.size, 5, none⟩ (.slice none 0 0)).alloc (.cells #[.int .i64 n, .int .i64 r, .string k, .slice AA an ac, .slice TA tn tc, .slice none 0 0] 31)) := hBf.alloc hBf.size _
  have hn1 := hZK.len
  have hn2 : n1 ≤ 500000 := by have := HR1.out.length; have := HKL.out; omega
  have HROW := Lib.hid hrow
  have HZK := Lib.hid hZK
  have HSUB := Lib.hid hsub
  have HBAL := Lib.hid hbal
  have HVK := Lib.hid hzK
  have HN1 := Lib.hid hn1
  clear hrow hZK hsub hbal hzK hn1 hK hBf hsz
  go_wp2_with (at_builtin; refine wpList_rows rfl (.tmp 46) (.tmp 47) rfl rfl HROW.out rfl HZK.out HSUB.out ?len HBAL.out.size ?_)
  case len => have := HN1.out; simp; omega
  intro A' c' w5 hrow1 hg1 hat1
  have hB5 := HBAL.out.trans (HROW.out.grown_below hg1 HBAL.out.size)
  go_wp2_with fail
  go_ret
  refine ⟨_, _, _, rfl, ?_, hB5⟩
  have h9 := hrow1.rd (S' := Sn w.heap.size S) fun _ _ h => h
  rw [← HVK.out]
  exact h9

set_option maxRecDepth 100000 in
set_option maxHeartbeats 2000000 in
theorem node51_para (N : Nat) (hR : RowC 41 N) (n r : Int) (k : ByteArray) (at_ : List Att) (tx : List Pce) (ks : List RT) (hk : kd k = .para) (h1 : rsizeL ks < N) (h2 : rsizeL ks ≤ 100000)
    (w : World) (S : Nat → Prop) (AA : Option Addr) (an ac : Nat) (TA : Option Addr) (tn tc : Nat) (A : Option Addr) (m c : Nat) (hS : ∀ b, S b → b < w.heap.size) (ha : RdAF w S AA an ac at_) (hp : RdPF w S TA tn tc tx) (hks : RdF w S A m c ks) :
    Calls Try.prog 51 #[.agg #[.int .i64 n, .int .i64 r, .string k, .slice AA an ac, .slice TA tn tc, .slice A m c]] w (GivesR w S (nodeK n r k at_ tx (rowT ks))) := by
  have hB0 : Below w.heap.size w (w.alloc (.cells #[.int .i64 n, .int .i64 r, .string k, .slice AA an ac, .slice TA tn tc, .slice A m c] 31)) := blAl _
  have hF : ∀ b, w.heap.size + 1 ≤ b → Sn (w.heap.size + 1) S b := fun b h => .inr h
  have hs0 : (w.alloc (.cells #[.int .i64 n, .int .i64 r, .string k, .slice AA an ac, .slice TA tn tc, .slice A m c] 31)).heap.size = w.heap.size + 1 := World.size_alloc _ _
  have HC := Lib.hid (row_open (W := w.alloc (.cells #[.int .i64 n, .int .i64 r, .string k, .slice AA an ac, .slice TA tn tc, .slice A m c] 31)) (F := Sn (w.heap.size + 1) S) hR h1 h2 (fun b h => hF b (by rw [← hs0]; exact h)) (hks.stay (.below hB0 fun _ _ h => .inl h)))
  have hKL : (rowT ks).length ≤ 500000 := Nat.le_trans (rowT_len ks) (by omega)
  have hKG := rowT_good ks
  have X0 := BoxN.made w #[.int .i64 n, .int .i64 r, .string k, .slice AA an ac, .slice TA tn tc, .slice A m c] 31
  have HX0 := Lib.hid X0
  have HS := Lib.hid hS
  have HA := Lib.hid ha
  have HP := Lib.hid hp
  have HB0 := Lib.hid hB0
  have HF := Lib.hid hF
  have HS0 := Lib.hid hs0
  have HKL := Lib.hid hKL
  have HKG := Lib.hid hKG
  generalize rowT ks = K at *
  clear hS ha hp hks hB0 hF hs0 hKL hKG X0 hR h1 h2
  have qitem : (k.toList == [105, 116, 101, 109]) = false := by rw [is_item, hk]; rfl
  have qcell : (k.toList == [99, 101, 108, 108]) = false := by rw [is_cell, hk]; rfl
  have qquote : (k.toList == [113, 117, 111, 116, 101]) = false := by rw [is_quote, hk]; rfl
  have qlist : (k.toList == [108, 105, 115, 116]) = false := by rw [is_list, hk]; rfl
  have qtable : (k.toList == [116, 97, 98, 108, 101]) = false := by rw [is_table, hk]; rfl
  have qrow : (k.toList == [114, 111, 119]) = false := by rw [is_row, hk]; rfl
  have qhead : (k.toList == [104, 101, 97, 100]) = false := by rw [is_head, hk]; rfl
  have hw : nodeK n r k at_ tx K = (RT.node n r sPara at_ tx []) :: K := by unfold nodeK; rw [hk]; rw [kd_para hk]
  rw [hw]
  clear hw hk
  go_enter Try.func51, Try.ntmps51
  go_wp2_with fail
  refine HC.out.mono ?_
  rintro e w1 ⟨A1, n1, c1, rfl, hr1, hB1⟩
  have hX1 := HX0.out.below hB1 HX0.out.lt
  have HX1 := Lib.hid hX1
  have HB1 := Lib.hid (HB0.out.trans (hB1.mono HB0.out.size))
  have HZ1 : Hid (w.heap.size + 1 ≤ w1.heap.size) := Lib.hid (by have := hB1.size; rw [HS0.out] at this; exact this)
  have HR1 := Lib.hid hr1
  have w1c0 : w1.cell? ⟨w.heap.size, 0, none⟩ = some (.int .i64 n) := hX1.cell (j := 0) rfl
  have w1c1 : w1.cell? ⟨w.heap.size, 1, none⟩ = some (.int .i64 r) := hX1.cell (j := 1) rfl
  have w1c2 : w1.cell? ⟨w.heap.size, 2, none⟩ = some (.string k) := hX1.cell (j := 2) rfl
  have w1c3 : w1.cell? ⟨w.heap.size, 3, none⟩ = some (.slice AA an ac) := hX1.cell (j := 3) rfl
  have w1c4 : w1.cell? ⟨w.heap.size, 4, none⟩ = some (.slice TA tn tc) := hX1.cell (j := 4) rfl
  have w1c5 : w1.cell? ⟨w.heap.size, 5, none⟩ = some (.slice A m c) := hX1.cell (j := 5) rfl
  have w1f : ∀ jj, w1.frozen? ⟨w.heap.size, jj, none⟩ = false := fun jj => hX1.frozen
  clear hX1 hr1 hB1 HC HX0 HB0
  have hsz : ((w1.setCell ⟨w.heap.size, 5, none⟩ (.slice none 0 0)).setCell ⟨w.heap.size, 2, none⟩ (.string sPara)).heap.size = w1.heap.size := by simp [World.setCell]
  have hBf : Below w.heap.size w ((w1.setCell ⟨w.heap.size, 5, none⟩ (.slice none 0 0)).setCell ⟨w.heap.size, 2, none⟩ (.string sPara)) := ((HB1.out.setCell (p := ⟨w.heap.size, 5, none⟩) (Nat.le_refl _) _).setCell (p := ⟨w.heap.size, 2, none⟩) (Nat.le_refl _) _)
  have hv : NdF ((w1.setCell ⟨w.heap.size, 5, none⟩ (.slice none 0 0)).setCell ⟨w.heap.size, 2, none⟩ (.string sPara)) S (#[.int .i64 n, .int .i64 r, .string sPara, .slice AA an ac, .slice TA tn tc, .slice none 0 0] : Array Value).toList (RT.node n r sPara at_ tx []) := NdF.node (HA.out.stay (.beneath hBf (fun b _ h => HS.out b h) fun _ _ h => h)) (HP.out.stay (.beneath hBf (fun b _ h => HS.out b h) fun _ _ h => h)) (RdF.nil _ _)
  have HV := Lib.hid hv
  clear hv
  have hrow := Row.one (S := S) (n₀ := w.heap.size) _ _ HV.out (fun b _ h => .inl h) w1.heap.size hsz (by have := HZ1.out; omega)
  have hK : RdF (((w1.setCell ⟨w.heap.size, 5, none⟩ (.slice none 0 0)).setCell ⟨w.heap.size, 2, none⟩ (.string sPara)).alloc (.cells #[.int .i64 n, .int .i64 r, .string sPara, .slice AA an ac, .slice TA tn tc, .slice none 0 0] 31)) (fun b => Sn (w.heap.size + 1) S b ∧ b < w1.heap.size) A1 n1 c1 K :=
    ((HR1.out.stay (.weaken w1 fun b hb h => ⟨h, hb⟩) : RdF w1 (fun b => Sn (w.heap.size + 1) S b ∧ b < w1.heap.size) A1 n1 c1 K).stay ((set_stay _ (fun b h => sn_ne HS.out b h.1) fun _ h => h).trans (set_stay _ (fun b h => sn_ne HS.out b h.1) fun _ h => h))).stay (.below (blAl _) fun _ _ h => h)
  obtain ⟨zK, hzK, hZK⟩ := hK.z
  have hsub : ∀ b, b < (((w1.setCell ⟨w.heap.size, 5, none⟩ (.slice none 0 0)).setCell ⟨w.heap.size, 2, none⟩ (.string sPara)).alloc (.cells #[.int .i64 n, .int .i64 r, .string sPara, .slice AA an ac, .slice TA tn tc, .slice none 0 0] 31)).heap.size → (Sn (w.heap.size + 1) S b ∧ b < w1.heap.size) → Sx w.heap.size S (.slice (some ⟨w1.heap.size, 0, none⟩) 1 1) b := fun b _ h => ⟨sn_more b h.1, fun e => by
    have h2 := h.2
    simp [Value.ownBlock] at e
    omega⟩
  have hbal : Below w.heap.size w (((w1.setCell ⟨w.heap.size, 5, none⟩ (.slice none 0 0)).setCell ⟨w.heap.size, 2, none⟩ (.string sPara)).alloc (.cells #[.int .i64 n, .int .i64 r, .string sPara, .slice AA an ac, .slice TA tn tc, .slice none 0 0] 31)) := hBf.alloc hBf.size _
  have hn1 := hZK.len
  have hn2 : n1 ≤ 500000 := by have := HR1.out.length; have := HKL.out; omega
  have HROW := Lib.hid hrow
  have HZK := Lib.hid hZK
  have HSUB := Lib.hid hsub
  have HBAL := Lib.hid hbal
  have HVK := Lib.hid hzK
  have HN1 := Lib.hid hn1
  clear hrow hZK hsub hbal hzK hn1 hK hBf hsz
  go_wp2_with (at_builtin; refine wpList_rows rfl (.tmp 46) (.tmp 47) rfl rfl HROW.out rfl HZK.out HSUB.out ?len HBAL.out.size ?_)
  case len => have := HN1.out; simp; omega
  intro A' c' w5 hrow1 hg1 hat1
  have hB5 := HBAL.out.trans (HROW.out.grown_below hg1 HBAL.out.size)
  go_wp2_with fail
  go_ret
  refine ⟨_, _, _, rfl, ?_, hB5⟩
  have h9 := hrow1.rd (S' := Sn w.heap.size S) fun _ _ h => h
  rw [← HVK.out]
  exact h9

set_option maxRecDepth 100000 in
set_option maxHeartbeats 2000000 in
theorem node51_doc (N : Nat) (hR : RowC 41 N) (n r : Int) (k : ByteArray) (at_ : List Att) (tx : List Pce) (ks : List RT) (hk : kd k = .doc) (h1 : rsizeL ks < N) (h2 : rsizeL ks ≤ 100000)
    (w : World) (S : Nat → Prop) (AA : Option Addr) (an ac : Nat) (TA : Option Addr) (tn tc : Nat) (A : Option Addr) (m c : Nat) (hS : ∀ b, S b → b < w.heap.size) (ha : RdAF w S AA an ac at_) (hp : RdPF w S TA tn tc tx) (hks : RdF w S A m c ks) :
    Calls Try.prog 51 #[.agg #[.int .i64 n, .int .i64 r, .string k, .slice AA an ac, .slice TA tn tc, .slice A m c]] w (GivesR w S (nodeK n r k at_ tx (rowT ks))) := by
  have hB0 : Below w.heap.size w (w.alloc (.cells #[.int .i64 n, .int .i64 r, .string k, .slice AA an ac, .slice TA tn tc, .slice A m c] 31)) := blAl _
  have hF : ∀ b, w.heap.size + 1 ≤ b → Sn (w.heap.size + 1) S b := fun b h => .inr h
  have hs0 : (w.alloc (.cells #[.int .i64 n, .int .i64 r, .string k, .slice AA an ac, .slice TA tn tc, .slice A m c] 31)).heap.size = w.heap.size + 1 := World.size_alloc _ _
  have HC := Lib.hid (row_open (W := w.alloc (.cells #[.int .i64 n, .int .i64 r, .string k, .slice AA an ac, .slice TA tn tc, .slice A m c] 31)) (F := Sn (w.heap.size + 1) S) hR h1 h2 (fun b h => hF b (by rw [← hs0]; exact h)) (hks.stay (.below hB0 fun _ _ h => .inl h)))
  have hKL : (rowT ks).length ≤ 500000 := Nat.le_trans (rowT_len ks) (by omega)
  have hKG := rowT_good ks
  have X0 := BoxN.made w #[.int .i64 n, .int .i64 r, .string k, .slice AA an ac, .slice TA tn tc, .slice A m c] 31
  have HX0 := Lib.hid X0
  have HS := Lib.hid hS
  have HA := Lib.hid ha
  have HP := Lib.hid hp
  have HB0 := Lib.hid hB0
  have HF := Lib.hid hF
  have HS0 := Lib.hid hs0
  have HKL := Lib.hid hKL
  have HKG := Lib.hid hKG
  generalize rowT ks = K at *
  clear hS ha hp hks hB0 hF hs0 hKL hKG X0 hR h1 h2
  have qitem : (k.toList == [105, 116, 101, 109]) = false := by rw [is_item, hk]; rfl
  have qcell : (k.toList == [99, 101, 108, 108]) = false := by rw [is_cell, hk]; rfl
  have qquote : (k.toList == [113, 117, 111, 116, 101]) = false := by rw [is_quote, hk]; rfl
  have qlist : (k.toList == [108, 105, 115, 116]) = false := by rw [is_list, hk]; rfl
  have qtable : (k.toList == [116, 97, 98, 108, 101]) = false := by rw [is_table, hk]; rfl
  have qrow : (k.toList == [114, 111, 119]) = false := by rw [is_row, hk]; rfl
  have qhead : (k.toList == [104, 101, 97, 100]) = false := by rw [is_head, hk]; rfl
  have hw : nodeK n r k at_ tx K = (RT.node n r sPara at_ tx []) :: K := by unfold nodeK; rw [hk]
  rw [hw]
  clear hw hk
  go_enter Try.func51, Try.ntmps51
  go_wp2_with fail
  refine HC.out.mono ?_
  rintro e w1 ⟨A1, n1, c1, rfl, hr1, hB1⟩
  have hX1 := HX0.out.below hB1 HX0.out.lt
  have HX1 := Lib.hid hX1
  have HB1 := Lib.hid (HB0.out.trans (hB1.mono HB0.out.size))
  have HZ1 : Hid (w.heap.size + 1 ≤ w1.heap.size) := Lib.hid (by have := hB1.size; rw [HS0.out] at this; exact this)
  have HR1 := Lib.hid hr1
  have w1c0 : w1.cell? ⟨w.heap.size, 0, none⟩ = some (.int .i64 n) := hX1.cell (j := 0) rfl
  have w1c1 : w1.cell? ⟨w.heap.size, 1, none⟩ = some (.int .i64 r) := hX1.cell (j := 1) rfl
  have w1c2 : w1.cell? ⟨w.heap.size, 2, none⟩ = some (.string k) := hX1.cell (j := 2) rfl
  have w1c3 : w1.cell? ⟨w.heap.size, 3, none⟩ = some (.slice AA an ac) := hX1.cell (j := 3) rfl
  have w1c4 : w1.cell? ⟨w.heap.size, 4, none⟩ = some (.slice TA tn tc) := hX1.cell (j := 4) rfl
  have w1c5 : w1.cell? ⟨w.heap.size, 5, none⟩ = some (.slice A m c) := hX1.cell (j := 5) rfl
  have w1f : ∀ jj, w1.frozen? ⟨w.heap.size, jj, none⟩ = false := fun jj => hX1.frozen
  clear hX1 hr1 hB1 HC HX0 HB0
  have hsz : ((w1.setCell ⟨w.heap.size, 5, none⟩ (.slice none 0 0)).setCell ⟨w.heap.size, 2, none⟩ (.string sPara)).heap.size = w1.heap.size := by simp [World.setCell]
  have hBf : Below w.heap.size w ((w1.setCell ⟨w.heap.size, 5, none⟩ (.slice none 0 0)).setCell ⟨w.heap.size, 2, none⟩ (.string sPara)) := ((HB1.out.setCell (p := ⟨w.heap.size, 5, none⟩) (Nat.le_refl _) _).setCell (p := ⟨w.heap.size, 2, none⟩) (Nat.le_refl _) _)
  have hv : NdF ((w1.setCell ⟨w.heap.size, 5, none⟩ (.slice none 0 0)).setCell ⟨w.heap.size, 2, none⟩ (.string sPara)) S (#[.int .i64 n, .int .i64 r, .string sPara, .slice AA an ac, .slice TA tn tc, .slice none 0 0] : Array Value).toList (RT.node n r sPara at_ tx []) := NdF.node (HA.out.stay (.beneath hBf (fun b _ h => HS.out b h) fun _ _ h => h)) (HP.out.stay (.beneath hBf (fun b _ h => HS.out b h) fun _ _ h => h)) (RdF.nil _ _)
  have HV := Lib.hid hv
  clear hv
  have hrow := Row.one (S := S) (n₀ := w.heap.size) _ _ HV.out (fun b _ h => .inl h) w1.heap.size hsz (by have := HZ1.out; omega)
  have hK : RdF (((w1.setCell ⟨w.heap.size, 5, none⟩ (.slice none 0 0)).setCell ⟨w.heap.size, 2, none⟩ (.string sPara)).alloc (.cells #[.int .i64 n, .int .i64 r, .string sPara, .slice AA an ac, .slice TA tn tc, .slice none 0 0] 31)) (fun b => Sn (w.heap.size + 1) S b ∧ b < w1.heap.size) A1 n1 c1 K :=
    ((HR1.out.stay (.weaken w1 fun b hb h => ⟨h, hb⟩) : RdF w1 (fun b => Sn (w.heap.size + 1) S b ∧ b < w1.heap.size) A1 n1 c1 K).stay ((set_stay _ (fun b h => sn_ne HS.out b h.1) fun _ h => h).trans (set_stay _ (fun b h => sn_ne HS.out b h.1) fun _ h => h))).stay (.below (blAl _) fun _ _ h => h)
  obtain ⟨zK, hzK, hZK⟩ := hK.z
  have hsub : ∀ b, b < (((w1.setCell ⟨w.heap.size, 5, none⟩ (.slice none 0 0)).setCell ⟨w.heap.size, 2, none⟩ (.string sPara)).alloc (.cells #[.int .i64 n, .int .i64 r, .string sPara, .slice AA an ac, .slice TA tn tc, .slice none 0 0] 31)).heap.size → (Sn (w.heap.size + 1) S b ∧ b < w1.heap.size) → Sx w.heap.size S (.slice (some ⟨w1.heap.size, 0, none⟩) 1 1) b := fun b _ h => ⟨sn_more b h.1, fun e => by
    have h2 := h.2
    simp [Value.ownBlock] at e
    omega⟩
  have hbal : Below w.heap.size w (((w1.setCell ⟨w.heap.size, 5, none⟩ (.slice none 0 0)).setCell ⟨w.heap.size, 2, none⟩ (.string sPara)).alloc (.cells #[.int .i64 n, .int .i64 r, .string sPara, .slice AA an ac, .slice TA tn tc, .slice none 0 0] 31)) := hBf.alloc hBf.size _
  have hn1 := hZK.len
  have hn2 : n1 ≤ 500000 := by have := HR1.out.length; have := HKL.out; omega
  have HROW := Lib.hid hrow
  have HZK := Lib.hid hZK
  have HSUB := Lib.hid hsub
  have HBAL := Lib.hid hbal
  have HVK := Lib.hid hzK
  have HN1 := Lib.hid hn1
  clear hrow hZK hsub hbal hzK hn1 hK hBf hsz
  go_wp2_with (at_builtin; refine wpList_rows rfl (.tmp 46) (.tmp 47) rfl rfl HROW.out rfl HZK.out HSUB.out ?len HBAL.out.size ?_)
  case len => have := HN1.out; simp; omega
  intro A' c' w5 hrow1 hg1 hat1
  have hB5 := HBAL.out.trans (HROW.out.grown_below hg1 HBAL.out.size)
  go_wp2_with fail
  go_ret
  refine ⟨_, _, _, rfl, ?_, hB5⟩
  have h9 := hrow1.rd (S' := Sn w.heap.size S) fun _ _ h => h
  rw [← HVK.out]
  exact h9

set_option maxRecDepth 100000 in
set_option maxHeartbeats 2000000 in
theorem node51_other (N : Nat) (hR : RowC 41 N) (n r : Int) (k : ByteArray) (at_ : List Att) (tx : List Pce) (ks : List RT) (hk : kd k = .other) (h1 : rsizeL ks < N) (h2 : rsizeL ks ≤ 100000)
    (w : World) (S : Nat → Prop) (AA : Option Addr) (an ac : Nat) (TA : Option Addr) (tn tc : Nat) (A : Option Addr) (m c : Nat) (hS : ∀ b, S b → b < w.heap.size) (ha : RdAF w S AA an ac at_) (hp : RdPF w S TA tn tc tx) (hks : RdF w S A m c ks) :
    Calls Try.prog 51 #[.agg #[.int .i64 n, .int .i64 r, .string k, .slice AA an ac, .slice TA tn tc, .slice A m c]] w (GivesR w S (nodeK n r k at_ tx (rowT ks))) := by
  have hB0 : Below w.heap.size w (w.alloc (.cells #[.int .i64 n, .int .i64 r, .string k, .slice AA an ac, .slice TA tn tc, .slice A m c] 31)) := blAl _
  have hF : ∀ b, w.heap.size + 1 ≤ b → Sn (w.heap.size + 1) S b := fun b h => .inr h
  have hs0 : (w.alloc (.cells #[.int .i64 n, .int .i64 r, .string k, .slice AA an ac, .slice TA tn tc, .slice A m c] 31)).heap.size = w.heap.size + 1 := World.size_alloc _ _
  have HC := Lib.hid (row_open (W := w.alloc (.cells #[.int .i64 n, .int .i64 r, .string k, .slice AA an ac, .slice TA tn tc, .slice A m c] 31)) (F := Sn (w.heap.size + 1) S) hR h1 h2 (fun b h => hF b (by rw [← hs0]; exact h)) (hks.stay (.below hB0 fun _ _ h => .inl h)))
  have hKL : (rowT ks).length ≤ 500000 := Nat.le_trans (rowT_len ks) (by omega)
  have hKG := rowT_good ks
  have X0 := BoxN.made w #[.int .i64 n, .int .i64 r, .string k, .slice AA an ac, .slice TA tn tc, .slice A m c] 31
  have HX0 := Lib.hid X0
  have HS := Lib.hid hS
  have HA := Lib.hid ha
  have HP := Lib.hid hp
  have HB0 := Lib.hid hB0
  have HF := Lib.hid hF
  have HS0 := Lib.hid hs0
  have HKL := Lib.hid hKL
  have HKG := Lib.hid hKG
  generalize rowT ks = K at *
  clear hS ha hp hks hB0 hF hs0 hKL hKG X0 hR h1 h2
  have qitem : (k.toList == [105, 116, 101, 109]) = false := by rw [is_item, hk]; rfl
  have qcell : (k.toList == [99, 101, 108, 108]) = false := by rw [is_cell, hk]; rfl
  have qquote : (k.toList == [113, 117, 111, 116, 101]) = false := by rw [is_quote, hk]; rfl
  have qlist : (k.toList == [108, 105, 115, 116]) = false := by rw [is_list, hk]; rfl
  have qtable : (k.toList == [116, 97, 98, 108, 101]) = false := by rw [is_table, hk]; rfl
  have qrow : (k.toList == [114, 111, 119]) = false := by rw [is_row, hk]; rfl
  have qhead : (k.toList == [104, 101, 97, 100]) = false := by rw [is_head, hk]; rfl
  have hw : nodeK n r k at_ tx K = (RT.node n r sPara at_ tx []) :: K := by unfold nodeK; rw [hk]
  rw [hw]
  clear hw hk
  go_enter Try.func51, Try.ntmps51
  go_wp2_with fail
  refine HC.out.mono ?_
  rintro e w1 ⟨A1, n1, c1, rfl, hr1, hB1⟩
  have hX1 := HX0.out.below hB1 HX0.out.lt
  have HX1 := Lib.hid hX1
  have HB1 := Lib.hid (HB0.out.trans (hB1.mono HB0.out.size))
  have HZ1 : Hid (w.heap.size + 1 ≤ w1.heap.size) := Lib.hid (by have := hB1.size; rw [HS0.out] at this; exact this)
  have HR1 := Lib.hid hr1
  have w1c0 : w1.cell? ⟨w.heap.size, 0, none⟩ = some (.int .i64 n) := hX1.cell (j := 0) rfl
  have w1c1 : w1.cell? ⟨w.heap.size, 1, none⟩ = some (.int .i64 r) := hX1.cell (j := 1) rfl
  have w1c2 : w1.cell? ⟨w.heap.size, 2, none⟩ = some (.string k) := hX1.cell (j := 2) rfl
  have w1c3 : w1.cell? ⟨w.heap.size, 3, none⟩ = some (.slice AA an ac) := hX1.cell (j := 3) rfl
  have w1c4 : w1.cell? ⟨w.heap.size, 4, none⟩ = some (.slice TA tn tc) := hX1.cell (j := 4) rfl
  have w1c5 : w1.cell? ⟨w.heap.size, 5, none⟩ = some (.slice A m c) := hX1.cell (j := 5) rfl
  have w1f : ∀ jj, w1.frozen? ⟨w.heap.size, jj, none⟩ = false := fun jj => hX1.frozen
  clear hX1 hr1 hB1 HC HX0 HB0
  have hsz : ((w1.setCell ⟨w.heap.size, 5, none⟩ (.slice none 0 0)).setCell ⟨w.heap.size, 2, none⟩ (.string sPara)).heap.size = w1.heap.size := by simp [World.setCell]
  have hBf : Below w.heap.size w ((w1.setCell ⟨w.heap.size, 5, none⟩ (.slice none 0 0)).setCell ⟨w.heap.size, 2, none⟩ (.string sPara)) := ((HB1.out.setCell (p := ⟨w.heap.size, 5, none⟩) (Nat.le_refl _) _).setCell (p := ⟨w.heap.size, 2, none⟩) (Nat.le_refl _) _)
  have hv : NdF ((w1.setCell ⟨w.heap.size, 5, none⟩ (.slice none 0 0)).setCell ⟨w.heap.size, 2, none⟩ (.string sPara)) S (#[.int .i64 n, .int .i64 r, .string sPara, .slice AA an ac, .slice TA tn tc, .slice none 0 0] : Array Value).toList (RT.node n r sPara at_ tx []) := NdF.node (HA.out.stay (.beneath hBf (fun b _ h => HS.out b h) fun _ _ h => h)) (HP.out.stay (.beneath hBf (fun b _ h => HS.out b h) fun _ _ h => h)) (RdF.nil _ _)
  have HV := Lib.hid hv
  clear hv
  have hrow := Row.one (S := S) (n₀ := w.heap.size) _ _ HV.out (fun b _ h => .inl h) w1.heap.size hsz (by have := HZ1.out; omega)
  have hK : RdF (((w1.setCell ⟨w.heap.size, 5, none⟩ (.slice none 0 0)).setCell ⟨w.heap.size, 2, none⟩ (.string sPara)).alloc (.cells #[.int .i64 n, .int .i64 r, .string sPara, .slice AA an ac, .slice TA tn tc, .slice none 0 0] 31)) (fun b => Sn (w.heap.size + 1) S b ∧ b < w1.heap.size) A1 n1 c1 K :=
    ((HR1.out.stay (.weaken w1 fun b hb h => ⟨h, hb⟩) : RdF w1 (fun b => Sn (w.heap.size + 1) S b ∧ b < w1.heap.size) A1 n1 c1 K).stay ((set_stay _ (fun b h => sn_ne HS.out b h.1) fun _ h => h).trans (set_stay _ (fun b h => sn_ne HS.out b h.1) fun _ h => h))).stay (.below (blAl _) fun _ _ h => h)
  obtain ⟨zK, hzK, hZK⟩ := hK.z
  have hsub : ∀ b, b < (((w1.setCell ⟨w.heap.size, 5, none⟩ (.slice none 0 0)).setCell ⟨w.heap.size, 2, none⟩ (.string sPara)).alloc (.cells #[.int .i64 n, .int .i64 r, .string sPara, .slice AA an ac, .slice TA tn tc, .slice none 0 0] 31)).heap.size → (Sn (w.heap.size + 1) S b ∧ b < w1.heap.size) → Sx w.heap.size S (.slice (some ⟨w1.heap.size, 0, none⟩) 1 1) b := fun b _ h => ⟨sn_more b h.1, fun e => by
    have h2 := h.2
    simp [Value.ownBlock] at e
    omega⟩
  have hbal : Below w.heap.size w (((w1.setCell ⟨w.heap.size, 5, none⟩ (.slice none 0 0)).setCell ⟨w.heap.size, 2, none⟩ (.string sPara)).alloc (.cells #[.int .i64 n, .int .i64 r, .string sPara, .slice AA an ac, .slice TA tn tc, .slice none 0 0] 31)) := hBf.alloc hBf.size _
  have hn1 := hZK.len
  have hn2 : n1 ≤ 500000 := by have := HR1.out.length; have := HKL.out; omega
  have HROW := Lib.hid hrow
  have HZK := Lib.hid hZK
  have HSUB := Lib.hid hsub
  have HBAL := Lib.hid hbal
  have HVK := Lib.hid hzK
  have HN1 := Lib.hid hn1
  clear hrow hZK hsub hbal hzK hn1 hK hBf hsz
  go_wp2_with (at_builtin; refine wpList_rows rfl (.tmp 46) (.tmp 47) rfl rfl HROW.out rfl HZK.out HSUB.out ?len HBAL.out.size ?_)
  case len => have := HN1.out; simp; omega
  intro A' c' w5 hrow1 hg1 hat1
  have hB5 := HBAL.out.trans (HROW.out.grown_below hg1 HBAL.out.size)
  go_wp2_with fail
  go_ret
  refine ⟨_, _, _, rfl, ?_, hB5⟩
  have h9 := hrow1.rd (S' := Sn w.heap.size S) fun _ _ h => h
  rw [← HVK.out]
  exact h9

end Go.Proofs.Ytcdhndhgainadaa
