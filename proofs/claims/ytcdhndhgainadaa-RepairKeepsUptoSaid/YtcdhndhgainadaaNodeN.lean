/-
  The contract of the program's node: the kinds that must have something.
-/
import Derived.Test.YtcdhndhgainadaaHeldAt
import Derived.Test.YtcdhndhgainadaaOpenF
namespace Go.Proofs.Ytcdhndhgainadaa
open Go Go.RowKit
set_option linter.unusedVariables false
set_option linter.unusedSimpArgs false

set_option maxRecDepth 100000 in
set_option maxHeartbeats 2000000 in
theorem node51_quote (N : Nat) (hR : RowC 41 N) (n r : Int) (k : ByteArray) (at_ : List Att) (tx : List Pce) (ks : List RT) (hk : kd k = .quote) (h1 : rsizeL ks < N) (h2 : rsizeL ks ≤ 100000)
    (w : World) (S : Nat → Prop) (AA : Option Addr) (an ac : Nat) (TA : Option Addr) (tn tc : Nat) (A : Option Addr) (m c : Nat) (hS : ∀ b, S b → b < w.heap.size) (ha : RdAF w S AA an ac at_) (hp : RdPF w S TA tn tc tx) (hks : RdF w S A m c ks) :
    Calls Try.prog 51 #[.agg #[.int .i64 n, .int .i64 r, .string k, .slice AA an ac, .slice TA tn tc, .slice A m c]] w (GivesR w S (nodeK n r k at_ tx (rowT ks))) := by
  have hB0 : Below w.heap.size w (w.alloc (.cells #[.int .i64 n, .int .i64 r, .string k, .slice AA an ac, .slice TA tn tc, .slice A m c] 31)) := blAl _
  have hF : ∀ b, w.heap.size + 1 ≤ b → Sn (w.heap.size + 1) S b := fun b h => .inr h
  have hs0 : (w.alloc (.cells #[.int .i64 n, .int .i64 r, .string k, .slice AA an ac, .slice TA tn tc, .slice A m c] 31)).heap.size = w.heap.size + 1 := World.size_alloc _ _
  have HC := Lib.hid (row_open (W := w.alloc (.cells #[.int .i64 n, .int .i64 r, .string k, .slice AA an ac, .slice TA tn tc, .slice A m c] 31)) (F := Sn (w.heap.size + 1) S) hR h1 h2 (fun b h => hF b (by rw [← hs0]; exact h)) (hks.stay (.below hB0 fun _ _ h => .inl h)))
  have hKL : (rowT ks).length ≤ 500000 := Nat.le_trans (rowT_len ks) (by omega)
  have hKG := rowT_good ks
  have X0 := BoxN.made w #[.int .i64 n, .int .i64 r, .string k, .slice AA an ac, .slice TA tn tc, .slice A m c] 31
  have HX0 := Lib.hid X0
  have HS := Lib.hid hS
  have HA := Lib.hid ha
  have HP := Lib.hid hp
  have HB0 := Lib.hid hB0
  have HF := Lib.hid hF
  have HS0 := Lib.hid hs0
  have HKL := Lib.hid hKL
  have HKG := Lib.hid hKG
  generalize rowT ks = K at *
  clear hS ha hp hks hB0 hF hs0 hKL hKG X0 hR h1 h2
  have qitem : (k.toList == [105, 116, 101, 109]) = false := by rw [is_item, hk]; rfl
  have qcell : (k.toList == [99, 101, 108, 108]) = false := by rw [is_cell, hk]; rfl
  have qquote : (k.toList == [113, 117, 111, 116, 101]) = true := by rw [is_quote, hk]; rfl
  have qlist : (k.toList == [108, 105, 115, 116]) = false := by rw [is_list, hk]; rfl
  have qtable : (k.toList == [116, 97, 98, 108, 101]) = false := by rw [is_table, hk]; rfl
  have qrow : (k.toList == [114, 111, 119]) = false := by rw [is_row, hk]; rfl
  have qhead : (k.toList == [104, 101, 97, 100]) = false := by rw [is_head, hk]; rfl
  have hw : nodeK n r k at_ tx K = [.node n r k at_ [] (orLeast (kd k) (fitT (kd k) (toldT tx ++ K)))] := by unfold nodeK; rw [hk]
  rw [hw]
  have hpar : Par (kd k) := by rw [hk]; simp [Par]
  have HPAR := Lib.hid hpar
  clear hw hk hpar
  go_enter Try.func51, Try.ntmps51
  go_wp2_with fail
  refine HC.out.mono ?_
  rintro e w1 ⟨A1, n1, c1, rfl, hr1, hB1⟩
  have hX1 := HX0.out.below hB1 HX0.out.lt
  have HX1 := Lib.hid hX1
  have HB1 := Lib.hid (HB0.out.trans (hB1.mono HB0.out.size))
  have HZ1 : Hid (w.heap.size + 1 ≤ w1.heap.size) := Lib.hid (by have := hB1.size; rw [HS0.out] at this; exact this)
  have HR1 := Lib.hid hr1
  have w1c0 : w1.cell? ⟨w.heap.size, 0, none⟩ = some (.int .i64 n) := hX1.cell (j := 0) rfl
  have w1c1 : w1.cell? ⟨w.heap.size, 1, none⟩ = some (.int .i64 r) := hX1.cell (j := 1) rfl
  have w1c2 : w1.cell? ⟨w.heap.size, 2, none⟩ = some (.string k) := hX1.cell (j := 2) rfl
  have w1c3 : w1.cell? ⟨w.heap.size, 3, none⟩ = some (.slice AA an ac) := hX1.cell (j := 3) rfl
  have w1c4 : w1.cell? ⟨w.heap.size, 4, none⟩ = some (.slice TA tn tc) := hX1.cell (j := 4) rfl
  have w1c5 : w1.cell? ⟨w.heap.size, 5, none⟩ = some (.slice A m c) := hX1.cell (j := 5) rfl
  have w1f : ∀ jj, w1.frozen? ⟨w.heap.size, jj, none⟩ = false := fun jj => hX1.frozen
  clear hX1 hr1 hB1 HC HX0 HB0
  go_wp2_with fail
  have hXs : BoxN (w1.setCell ⟨w.heap.size, 5, none⟩ (.slice none 0 0)) w.heap.size #[.int .i64 n, .int .i64 r, .string k, .slice AA an ac, .slice TA tn tc, .slice none 0 0] 31 := HX1.out.setAt 5 (.slice none 0 0)
  have hBs : Below w.heap.size w (w1.setCell ⟨w.heap.size, 5, none⟩ (.slice none 0 0)) := HB1.out.setCell (p := ⟨w.heap.size, 5, none⟩) (Nat.le_refl _) _
  have hRs : RdF (w1.setCell ⟨w.heap.size, 5, none⟩ (.slice none 0 0)) (Sn (w.heap.size + 1) S) A1 n1 c1 K := HR1.out.stay (set_stay _ (sn_ne HS.out) fun _ h => h)
  have hzs : w.heap.size + 1 ≤ (w1.setCell ⟨w.heap.size, 5, none⟩ (.slice none 0 0)).heap.size := by have := HZ1.out; simpa [World.setCell] using this
  have hn1 : n1 ≤ 500000 := by have := HR1.out.length; have := HKL.out; omega
  clear HX1 HB1 HZ1 HR1 w1c0 w1c1 w1c2 w1c3 w1c4 w1c5 w1f
  generalize w1.setCell ⟨w.heap.size, 5, none⟩ (.slice none 0 0) = ws at *
  have HXs := Lib.hid hXs
  have HBs := Lib.hid hBs
  have HRs := Lib.hid hRs
  have HZs := Lib.hid hzs
  clear hXs hBs hRs hzs
  refine wp_region_held (S := (fun w' : World => w'.cell? ⟨w.heap.size, 2, none⟩ = some (.string k) ∧ w'.cell? ⟨w.heap.size, 4, none⟩ = some (.slice TA tn tc))) (by kernel_rfl) ?_
  change wpAnyH _ _ _ _ _ _ _ _ ws.drew
  have HSW : (fun w' : World => w'.cell? ⟨w.heap.size, 2, none⟩ = some (.string k) ∧ w'.cell? ⟨w.heap.size, 4, none⟩ = some (.slice TA tn tc)) ws.drew := ⟨HXs.out.cell (j := 2) rfl, HXs.out.cell (j := 4) rfl⟩
  refine held_take (i := 0) (v := .pointer (some ⟨w.heap.size, 2, none⟩)) rfl (by kernel_rfl) (by kernel_rfl) (by kernel_rfl) (fun _ _ _ h => h) rfl (fun _ hS => by obtain ⟨e1, e2⟩ := hS; go_simp) HSW ?_
  simp only [Act.put, List.setIfInBounds_toArray, List.set_cons_succ, List.set_cons_zero, List.getElem_toArray, List.getElem_cons_succ, List.getElem_cons_zero]
  refine held_take (i := 1) (v := .string k) rfl (by kernel_rfl) (by kernel_rfl) (by kernel_rfl) (fun _ _ _ h => h) rfl (fun _ hS => by obtain ⟨e1, e2⟩ := hS; go_simp) HSW ?_
  simp only [Act.put, List.setIfInBounds_toArray, List.set_cons_succ, List.set_cons_zero, List.getElem_toArray, List.getElem_cons_succ, List.getElem_cons_zero]
  refine held_take (i := 2) (v := .pointer (some ⟨w.heap.size, 4, none⟩)) rfl (by kernel_rfl) (by kernel_rfl) (by kernel_rfl) (fun _ _ _ h => h) rfl (fun _ hS => by obtain ⟨e1, e2⟩ := hS; go_simp) HSW ?_
  simp only [Act.put, List.setIfInBounds_toArray, List.set_cons_succ, List.set_cons_zero, List.getElem_toArray, List.getElem_cons_succ, List.getElem_cons_zero]
  refine held_take (i := 3) (v := .slice TA tn tc) rfl (by kernel_rfl) (by kernel_rfl) (by kernel_rfl) (fun _ _ _ h => h) rfl (fun _ hS => by obtain ⟨e1, e2⟩ := hS; go_simp) HSW ?_
  simp only [Act.put, List.setIfInBounds_toArray, List.set_cons_succ, List.set_cons_zero, List.getElem_toArray, List.getElem_cons_succ, List.getElem_cons_zero]
  refine held_take (i := 5) (v := .slice A1 n1 c1) rfl (by kernel_rfl) (by kernel_rfl) (by kernel_rfl) (fun _ _ _ h => h) rfl (fun _ hS => by obtain ⟨e1, e2⟩ := hS; go_simp) HSW ?_
  simp only [Act.put, List.setIfInBounds_toArray, List.set_cons_succ, List.set_cons_zero, List.getElem_toArray, List.getElem_cons_succ, List.getElem_cons_zero]
  refine held_call (i := 4) (by kernel_rfl) rfl rfl rfl (enters_of Try.func39 (by kernel_rfl) rfl) [.slice TA tn tc] rfl (told_open (F := Sn (w.heap.size + 1) S) (HP.out.stay (.beneath (HBs.out.trans (Below.refl _ _).drew) (fun b _ h => HS.out b h) fun _ _ h => .inl h))) ?_
  rintro e w2 ⟨A2, d2, zt, rfl, hvt, hrow2, hB2⟩
  have hB2' : Below ws.heap.size ws w2 := (Below.refl _ _).drew.trans hB2
  have hX2 := HXs.out.below hB2' HXs.out.lt
  have HSW2 : (fun w' : World => w'.cell? ⟨w.heap.size, 2, none⟩ = some (.string k) ∧ w'.cell? ⟨w.heap.size, 4, none⟩ = some (.slice TA tn tc)) w2 := ⟨hX2.cell (j := 2) rfl, hX2.cell (j := 4) rfl⟩
  refine ⟨_, rfl, HSW2, ?_⟩
  simp only [Act.put, List.setIfInBounds_toArray, List.set_cons_succ, List.set_cons_zero, List.getElem_toArray, List.getElem_cons_succ, List.getElem_cons_zero]
  have hK2 : RdF w2 (fun b => Sn (w.heap.size + 1) S b ∧ b < ws.heap.size) A1 n1 c1 K := (HRs.out.stay (.weaken ws fun b hb h => ⟨h, hb⟩) : RdF ws (fun b => Sn (w.heap.size + 1) S b ∧ b < ws.heap.size) A1 n1 c1 K).stay (.below hB2' fun _ _ h => h)
  obtain ⟨zK, hzK, hZK⟩ := hK2.z
  have hzKl := hZK.len
  have hztl : zt.length ≤ 1 := by have := toldT_len tx; rw [← hvt, vz_len] at this; exact this
  refine held_one (i := 6) (by kernel_rfl) rfl rfl (wp_rows (.tmp 29) (.tmp 30) rfl rfl hrow2 rfl hZK (fun b _ h => ⟨.inl h, fun e => by
    have h1 := (hrow2.low b e).1
    have h2 := h.2
    exact absurd h1 (Nat.not_le_of_lt h2)⟩) (by omega) hB2.size ?_)
  intro A3 c3 w3 hrow3 hg3 hat3
  have hB3 : Below ws.heap.size w2 w3 := hrow2.grown_below hg3 hB2.size
  have hX3 := hX2.below hB3 HXs.out.lt
  have HSW3 : (fun w' : World => w'.cell? ⟨w.heap.size, 2, none⟩ = some (.string k) ∧ w'.cell? ⟨w.heap.size, 4, none⟩ = some (.slice TA tn tc)) w3 := ⟨hX3.cell (j := 2) rfl, hX3.cell (j := 4) rfl⟩
  refine ⟨HSW3, ?_⟩
  simp only [Act.put, List.setIfInBounds_toArray, List.set_cons_succ, List.set_cons_zero, List.getElem_toArray, List.getElem_cons_succ, List.getElem_cons_zero]
  have hZ3 : w.heap.size + 1 ≤ w3.heap.size := Nat.le_trans HZs.out (Nat.le_trans hB2'.size hB3.size)
  have hR3 : RdF w3 (Sn (w.heap.size + 1) S) A3 (zt.length + zK.length) c3 (toldT tx ++ K) := by
    have := hrow3.rd (S' := Sn (w.heap.size + 1) S) fun b _ h => h.elim (fun h => h.1) (fun h => HF.out b (Nat.le_trans HZs.out h))
    rwa [vz_append, hvt, hzK] at this
  refine held_call (i := 7) (by kernel_rfl) rfl rfl rfl (enters_of Try.func40 (by kernel_rfl) rfl) [.string k, .slice A3 (zt.length + zK.length) c3] rfl (fit_open (fitP k HPAR.out) (fun t ht => (List.mem_append.1 ht).elim (toldT_good tx t) (HKG.out t)) (by omega) (fun b h => HF.out b (Nat.le_trans hZ3 h)) hR3) ?_
  rintro e w4 ⟨A4, n4, c4, rfl, hr4, hB4⟩
  have hX4 := hX3.below hB4 hX3.lt
  have HSW4 : (fun w' : World => w'.cell? ⟨w.heap.size, 2, none⟩ = some (.string k) ∧ w'.cell? ⟨w.heap.size, 4, none⟩ = some (.slice TA tn tc)) w4 := ⟨hX4.cell (j := 2) rfl, hX4.cell (j := 4) rfl⟩
  refine ⟨_, rfl, HSW4, ?_⟩
  simp only [Act.put, List.setIfInBounds_toArray, List.set_cons_succ, List.set_cons_zero, List.getElem_toArray, List.getElem_cons_succ, List.getElem_cons_zero]
  refine held_take (i := 8) (v := .pointer (some ⟨w.heap.size, 5, none⟩)) rfl (by kernel_rfl) (by kernel_rfl) (by kernel_rfl) (fun _ _ _ h => h) rfl (fun _ hS => by obtain ⟨e1, e2⟩ := hS; go_simp) HSW4 ?_
  simp only [Act.put, List.setIfInBounds_toArray, List.set_cons_succ, List.set_cons_zero, List.getElem_toArray, List.getElem_cons_succ, List.getElem_cons_zero]
  have k5 : w4.cell? ⟨w.heap.size, 5, none⟩ = some (.slice none 0 0) := hX4.cell (j := 5) rfl
  have f5 : w4.frozen? ⟨w.heap.size, 5, none⟩ = false := hX4.frozen
  have hX5 : BoxN (w4.setCell ⟨w.heap.size, 5, none⟩ (.slice A4 n4 c4)) w.heap.size #[.int .i64 n, .int .i64 r, .string k, .slice AA an ac, .slice TA tn tc, .slice A4 n4 c4] 31 := hX4.setAt 5 (.slice A4 n4 c4)
  have HSW5 : (fun w' : World => w'.cell? ⟨w.heap.size, 2, none⟩ = some (.string k) ∧ w'.cell? ⟨w.heap.size, 4, none⟩ = some (.slice TA tn tc)) (w4.setCell ⟨w.heap.size, 5, none⟩ (.slice A4 n4 c4)) := ⟨hX5.cell (j := 2) rfl, hX5.cell (j := 4) rfl⟩
  have hB5 : Below w.heap.size w (w4.setCell ⟨w.heap.size, 5, none⟩ (.slice A4 n4 c4)) := (HBs.out.trans ((hB2'.mono (by have := HZs.out; omega)).trans ((hB3.mono (by have := HZs.out; omega)).trans (hB4.mono (by omega))))).setCell (p := ⟨w.heap.size, 5, none⟩) (Nat.le_refl _) _
  have hR5 : RdF (w4.setCell ⟨w.heap.size, 5, none⟩ (.slice A4 n4 c4)) (Sn (w.heap.size + 1) S) A4 n4 c4 (fitT (kd k) (toldT tx ++ K)) := hr4.stay (set_stay _ (sn_ne HS.out) fun _ h => h)
  have hZ5 : w.heap.size + 1 ≤ (w4.setCell ⟨w.heap.size, 5, none⟩ (.slice A4 n4 c4)).heap.size := by have := hX5.lt; omega
  refine held_one (i := 9) (by kernel_rfl) rfl rfl ?_
  simp only [Act.put, List.setIfInBounds_toArray, List.set_cons_succ, List.set_cons_zero, List.getElem_toArray, List.getElem_cons_succ, List.getElem_cons_zero]
  clear HSW HSW2 HSW3 HSW4 hX2 hX3 hrow2 hrow3 hg3 hat3 hB2 hB2' hB3 hB4 hZK hK2 hR3 hvt hzK hr4 hX4
  go_simp
  refine ⟨by kernel_rfl, ?_⟩
  clear HSW5 k5 f5
  generalize w4.setCell ⟨w.heap.size, 5, none⟩ (.slice A4 n4 c4) = w5 at *
  have HX5 := Lib.hid hX5
  have HB5 := Lib.hid hB5
  have HR5 := Lib.hid hR5
  have HZ5 := Lib.hid hZ5
  have w5c0 : w5.cell? ⟨w.heap.size, 0, none⟩ = some (.int .i64 n) := hX5.cell (j := 0) rfl
  have w5c1 : w5.cell? ⟨w.heap.size, 1, none⟩ = some (.int .i64 r) := hX5.cell (j := 1) rfl
  have w5c2 : w5.cell? ⟨w.heap.size, 2, none⟩ = some (.string k) := hX5.cell (j := 2) rfl
  have w5c3 : w5.cell? ⟨w.heap.size, 3, none⟩ = some (.slice AA an ac) := hX5.cell (j := 3) rfl
  have w5c4 : w5.cell? ⟨w.heap.size, 4, none⟩ = some (.slice TA tn tc) := hX5.cell (j := 4) rfl
  have w5c5 : w5.cell? ⟨w.heap.size, 5, none⟩ = some (.slice A4 n4 c4) := hX5.cell (j := 5) rfl
  have w5f : ∀ jj, w5.frozen? ⟨w.heap.size, jj, none⟩ = false := fun jj => hX5.frozen
  have hn4 := hR5.length
  have hn4b : (n4 : Int) ≤ 9223372036854775807 := by obtain ⟨zz, _, hz⟩ := hR5; have := hz.cap; have := hz.max; omega
  clear hX5 hB5 hR5 hZ5 HXs HBs HRs HZs
  by_cases hz4 : n4 = 0
  · subst hz4
    have hL : fitT (kd k) (toldT tx ++ K) = [] := List.eq_nil_of_length_eq_zero hn4
    have HW : Hid (orLeast (kd k) (fitT (kd k) (toldT tx ++ K)) = [leastT (kd k)]) := Lib.hid (by rw [hL]; rfl)
    clear hL hn4
    go_wp2_with fail
    refine (least_openN (F := Sn (w.heap.size + 1) S) k (fun b h => HF.out b (Nat.le_trans HZ5.out (by simpa [World.setCell] using h)))).mono ?_
    rintro e w6 ⟨v, rfl, hv6, hB6⟩
    obtain ⟨q0, q1, q2, q3, q3n, q3c, q4, q4n, q4c, q5, q5n, q5c, qa, qt, qk, hue, -⟩ := hv6.parts
    have hue2 : v = #[.int .i64 q0, .int .i64 q1, .string q2, .slice q3 q3n q3c, .slice q4 q4n q4c, .slice q5 q5n q5c] := by rw [← Array.toArray_toList (xs := v), hue]
    subst hue2
    clear hue
    have hX5s : BoxN (w5.setCell ⟨w.heap.size, 4, none⟩ (.slice none 0 0)) w.heap.size #[.int .i64 n, .int .i64 r, .string k, .slice AA an ac, .slice none 0 0, .slice A4 0 c4] 31 := HX5.out.setAt 4 (.slice none 0 0)
    have hX6 := hX5s.below hB6 hX5s.lt
    have hB7 : Below w.heap.size w w6 := (HB5.out.setCell (p := ⟨w.heap.size, 4, none⟩) (Nat.le_refl _) _).trans (hB6.mono (by have := hX5s.lt; omega))
    have hne : ¬ w.heap.size = w6.heap.size := by have := hX6.lt; omega
    have h6lt := hX6.lt
    have hK7 := RdF.one (w := (w6.setCell ⟨w.heap.size, 5, none⟩ (.slice (some ⟨w6.heap.size, 0, none⟩) 1 1))) (S := Sn (w.heap.size + 1) S) (S' := Sn (w.heap.size + 1) S) #[.int .i64 q0, .int .i64 q1, .string q2, .slice q3 q3n q3c, .slice q4 q4n q4c, .slice q5 q5n q5c] _ (hv6.stay (set_stay (p := ⟨w.heap.size, 5, none⟩) (.slice (some ⟨w6.heap.size, 0, none⟩) 1 1) (sn_ne HS.out) fun _ h => h)) (fun _ _ h => h) w6.heap.size (by simp [World.setCell]) (.inr h6lt)
    have hB8 : Below w.heap.size w ((w6.setCell ⟨w.heap.size, 5, none⟩ (.slice (some ⟨w6.heap.size, 0, none⟩) 1 1)).alloc (.cells #[.int .i64 q0, .int .i64 q1, .string q2, .slice q3 q3n q3c, .slice q4 q4n q4c, .slice q5 q5n q5c] 31)) := (hB7.setCell (p := ⟨w.heap.size, 5, none⟩) (Nat.le_refl _) _).alloc (by have := hB7.size; simpa [World.setCell] using this) _
    have HK7 := Lib.hid hK7
    have HB8 := Lib.hid hB8
    have w6c0 : w6.cell? ⟨w.heap.size, 0, none⟩ = some (.int .i64 n) := hX6.cell (j := 0) rfl
    have w6c1 : w6.cell? ⟨w.heap.size, 1, none⟩ = some (.int .i64 r) := hX6.cell (j := 1) rfl
    have w6c2 : w6.cell? ⟨w.heap.size, 2, none⟩ = some (.string k) := hX6.cell (j := 2) rfl
    have w6c3 : w6.cell? ⟨w.heap.size, 3, none⟩ = some (.slice AA an ac) := hX6.cell (j := 3) rfl
    have w6c4 : w6.cell? ⟨w.heap.size, 4, none⟩ = some (.slice none 0 0) := hX6.cell (j := 4) rfl
    have w6c5 : w6.cell? ⟨w.heap.size, 5, none⟩ = some (.slice A4 0 c4) := hX6.cell (j := 5) rfl
    have w6f : ∀ jj, w6.frozen? ⟨w.heap.size, jj, none⟩ = false := fun jj => hX6.frozen
    clear hX5s hX6 hB6 hB7 hB8 hK7 hv6 w5c0 w5c1 w5c2 w5c3 w5c4 w5c5 w5f
    go_wp2_with fail
    go_ret
    rw [HW.out]
    have hBf := HB8.out
    have hv : NdF ((w6.setCell ⟨w.heap.size, 5, none⟩ (.slice (some ⟨w6.heap.size, 0, none⟩) 1 1)).alloc (.cells #[.int .i64 q0, .int .i64 q1, .string q2, .slice q3 q3n q3c, .slice q4 q4n q4c, .slice q5 q5n q5c] 31)) (Sn (w.heap.size + 1) S) [.int .i64 n, .int .i64 r, .string k, .slice AA an ac, .slice none 0 0, .slice (some ⟨w6.heap.size, 0, none⟩) 1 1] (.node n r k at_ [] [leastT (kd k)]) := NdF.node (HA.out.stay (.beneath hBf (fun b _ h => HS.out b h) fun _ _ h => .inl h)) (RdP.nil _ _) HK7.out
    have hv2 : NdF ((w6.setCell ⟨w.heap.size, 5, none⟩ (.slice (some ⟨w6.heap.size, 0, none⟩) 1 1)).alloc (.cells #[.int .i64 q0, .int .i64 q1, .string q2, .slice q3 q3n q3c, .slice q4 q4n q4c, .slice q5 q5n q5c] 31)) (Sn (w.heap.size + 1) S) (#[.int .i64 n, .int .i64 r, .string k, .slice AA an ac, .slice none 0 0, .slice (some ⟨w6.heap.size, 0, none⟩) 1 1] : Array Value).toList (.node n r k at_ [] [leastT (kd k)]) := hv
    refine ⟨_, _, _, rfl, RdF.one (w := ((w6.setCell ⟨w.heap.size, 5, none⟩ (.slice (some ⟨w6.heap.size, 0, none⟩) 1 1)).alloc (.cells #[.int .i64 q0, .int .i64 q1, .string q2, .slice q3 q3n q3c, .slice q4 q4n q4c, .slice q5 q5n q5c] 31))) (S := Sn (w.heap.size + 1) S) (S' := Sn w.heap.size S) #[.int .i64 n, .int .i64 r, .string k, .slice AA an ac, .slice none 0 0, .slice (some ⟨w6.heap.size, 0, none⟩) 1 1] (.node n r k at_ [] [leastT (kd k)]) hv2 (fun b _ h => sn_more b h) _ (by simp [World.setCell]) (.inr (by omega)), hBf.alloc hBf.size _⟩
  · have hL : fitT (kd k) (toldT tx ++ K) ≠ [] := fun e => hz4 (by rw [e] at hn4; exact hn4.symm)
    have HW : Hid (orLeast (kd k) (fitT (kd k) (toldT tx ++ K)) = fitT (kd k) (toldT tx ++ K)) := Lib.hid (if_neg hL)
    have hi : ¬ (n4 : Int) = 0 := by omega
    have g1 : ((n4 : Int) == 0) = false := by simpa using hi
    clear hL hn4 hi
    go_wp2_with fail
    go_ret
    rw [HW.out]
    have hBf := (HB5.out.setCell (p := ⟨w.heap.size, 4, none⟩) (Nat.le_refl _) (.slice none 0 0))
    have hv : NdF (w5.setCell ⟨w.heap.size, 4, none⟩ (.slice none 0 0)) (Sn (w.heap.size + 1) S) [.int .i64 n, .int .i64 r, .string k, .slice AA an ac, .slice none 0 0, .slice A4 n4 c4] (.node n r k at_ [] (fitT (kd k) (toldT tx ++ K))) := NdF.node (HA.out.stay (.beneath hBf (fun b _ h => HS.out b h) fun _ _ h => .inl h)) (RdP.nil _ _) (HR5.out.stay (set_stay _ (sn_ne HS.out) fun _ h => h))
    have hv2 : NdF (w5.setCell ⟨w.heap.size, 4, none⟩ (.slice none 0 0)) (Sn (w.heap.size + 1) S) (#[.int .i64 n, .int .i64 r, .string k, .slice AA an ac, .slice none 0 0, .slice A4 n4 c4] : Array Value).toList (.node n r k at_ [] (fitT (kd k) (toldT tx ++ K))) := hv
    refine ⟨_, _, _, rfl, RdF.one (w := (w5.setCell ⟨w.heap.size, 4, none⟩ (.slice none 0 0))) (S := Sn (w.heap.size + 1) S) (S' := Sn w.heap.size S) #[.int .i64 n, .int .i64 r, .string k, .slice AA an ac, .slice none 0 0, .slice A4 n4 c4] (.node n r k at_ [] (fitT (kd k) (toldT tx ++ K))) hv2 (fun b _ h => sn_more b h) _ (by simp [World.setCell]) (.inr (by have := HX5.out.lt; omega)), hBf.alloc hBf.size _⟩

set_option maxRecDepth 100000 in
set_option maxHeartbeats 2000000 in
theorem node51_list (N : Nat) (hR : RowC 41 N) (n r : Int) (k : ByteArray) (at_ : List Att) (tx : List Pce) (ks : List RT) (hk : kd k = .list) (h1 : rsizeL ks < N) (h2 : rsizeL ks ≤ 100000)
    (w : World) (S : Nat → Prop) (AA : Option Addr) (an ac : Nat) (TA : Option Addr) (tn tc : Nat) (A : Option Addr) (m c : Nat) (hS : ∀ b, S b → b < w.heap.size) (ha : RdAF w S AA an ac at_) (hp : RdPF w S TA tn tc tx) (hks : RdF w S A m c ks) :
    Calls Try.prog 51 #[.agg #[.int .i64 n, .int .i64 r, .string k, .slice AA an ac, .slice TA tn tc, .slice A m c]] w (GivesR w S (nodeK n r k at_ tx (rowT ks))) := by
  have hB0 : Below w.heap.size w (w.alloc (.cells #[.int .i64 n, .int .i64 r, .string k, .slice AA an ac, .slice TA tn tc, .slice A m c] 31)) := blAl _
  have hF : ∀ b, w.heap.size + 1 ≤ b → Sn (w.heap.size + 1) S b := fun b h => .inr h
  have hs0 : (w.alloc (.cells #[.int .i64 n, .int .i64 r, .string k, .slice AA an ac, .slice TA tn tc, .slice A m c] 31)).heap.size = w.heap.size + 1 := World.size_alloc _ _
  have HC := Lib.hid (row_open (W := w.alloc (.cells #[.int .i64 n, .int .i64 r, .string k, .slice AA an ac, .slice TA tn tc, .slice A m c] 31)) (F := Sn (w.heap.size + 1) S) hR h1 h2 (fun b h => hF b (by rw [← hs0]; exact h)) (hks.stay (.below hB0 fun _ _ h => .inl h)))
  have hKL : (rowT ks).length ≤ 500000 := Nat.le_trans (rowT_len ks) (by omega)
  have hKG := rowT_good ks
  have X0 := BoxN.made w #[.int .i64 n, .int .i64 r, .string k, .slice AA an ac, .slice TA tn tc, .slice A m c] 31
  have HX0 := Lib.hid X0
  have HS := Lib.hid hS
  have HA := Lib.hid ha
  have HP := Lib.hid hp
  have HB0 := Lib.hid hB0
  have HF := Lib.hid hF
  have HS0 := Lib.hid hs0
  have HKL := Lib.hid hKL
  have HKG := Lib.hid hKG
  generalize rowT ks = K at *
  clear hS ha hp hks hB0 hF hs0 hKL hKG X0 hR h1 h2
  have qitem : (k.toList == [105, 116, 101, 109]) = false := by rw [is_item, hk]; rfl
  have qcell : (k.toList == [99, 101, 108, 108]) = false := by rw [is_cell, hk]; rfl
  have qquote : (k.toList == [113, 117, 111, 116, 101]) = false := by rw [is_quote, hk]; rfl
  have qlist : (k.toList == [108, 105, 115, 116]) = true := by rw [is_list, hk]; rfl
  have qtable : (k.toList == [116, 97, 98, 108, 101]) = false := by rw [is_table, hk]; rfl
  have qrow : (k.toList == [114, 111, 119]) = false := by rw [is_row, hk]; rfl
  have qhead : (k.toList == [104, 101, 97, 100]) = false := by rw [is_head, hk]; rfl
  have hw : nodeK n r k at_ tx K = [.node n r k at_ [] (orLeast (kd k) (fitT (kd k) (toldT tx ++ K)))] := by unfold nodeK; rw [hk]
  rw [hw]
  have hpar : Par (kd k) := by rw [hk]; simp [Par]
  have HPAR := Lib.hid hpar
  clear hw hk hpar
  go_enter Try.func51, Try.ntmps51
  go_wp2_with fail
  refine HC.out.mono ?_
  rintro e w1 ⟨A1, n1, c1, rfl, hr1, hB1⟩
  have hX1 := HX0.out.below hB1 HX0.out.lt
  have HX1 := Lib.hid hX1
  have HB1 := Lib.hid (HB0.out.trans (hB1.mono HB0.out.size))
  have HZ1 : Hid (w.heap.size + 1 ≤ w1.heap.size) := Lib.hid (by have := hB1.size; rw [HS0.out] at this; exact this)
  have HR1 := Lib.hid hr1
  have w1c0 : w1.cell? ⟨w.heap.size, 0, none⟩ = some (.int .i64 n) := hX1.cell (j := 0) rfl
  have w1c1 : w1.cell? ⟨w.heap.size, 1, none⟩ = some (.int .i64 r) := hX1.cell (j := 1) rfl
  have w1c2 : w1.cell? ⟨w.heap.size, 2, none⟩ = some (.string k) := hX1.cell (j := 2) rfl
  have w1c3 : w1.cell? ⟨w.heap.size, 3, none⟩ = some (.slice AA an ac) := hX1.cell (j := 3) rfl
  have w1c4 : w1.cell? ⟨w.heap.size, 4, none⟩ = some (.slice TA tn tc) := hX1.cell (j := 4) rfl
  have w1c5 : w1.cell? ⟨w.heap.size, 5, none⟩ = some (.slice A m c) := hX1.cell (j := 5) rfl
  have w1f : ∀ jj, w1.frozen? ⟨w.heap.size, jj, none⟩ = false := fun jj => hX1.frozen
  clear hX1 hr1 hB1 HC HX0 HB0
  go_wp2_with fail
  have hXs : BoxN (w1.setCell ⟨w.heap.size, 5, none⟩ (.slice none 0 0)) w.heap.size #[.int .i64 n, .int .i64 r, .string k, .slice AA an ac, .slice TA tn tc, .slice none 0 0] 31 := HX1.out.setAt 5 (.slice none 0 0)
  have hBs : Below w.heap.size w (w1.setCell ⟨w.heap.size, 5, none⟩ (.slice none 0 0)) := HB1.out.setCell (p := ⟨w.heap.size, 5, none⟩) (Nat.le_refl _) _
  have hRs : RdF (w1.setCell ⟨w.heap.size, 5, none⟩ (.slice none 0 0)) (Sn (w.heap.size + 1) S) A1 n1 c1 K := HR1.out.stay (set_stay _ (sn_ne HS.out) fun _ h => h)
  have hzs : w.heap.size + 1 ≤ (w1.setCell ⟨w.heap.size, 5, none⟩ (.slice none 0 0)).heap.size := by have := HZ1.out; simpa [World.setCell] using this
  have hn1 : n1 ≤ 500000 := by have := HR1.out.length; have := HKL.out; omega
  clear HX1 HB1 HZ1 HR1 w1c0 w1c1 w1c2 w1c3 w1c4 w1c5 w1f
  generalize w1.setCell ⟨w.heap.size, 5, none⟩ (.slice none 0 0) = ws at *
  have HXs := Lib.hid hXs
  have HBs := Lib.hid hBs
  have HRs := Lib.hid hRs
  have HZs := Lib.hid hzs
  clear hXs hBs hRs hzs
  refine wp_region_held (S := (fun w' : World => w'.cell? ⟨w.heap.size, 2, none⟩ = some (.string k) ∧ w'.cell? ⟨w.heap.size, 4, none⟩ = some (.slice TA tn tc))) (by kernel_rfl) ?_
  change wpAnyH _ _ _ _ _ _ _ _ ws.drew
  have HSW : (fun w' : World => w'.cell? ⟨w.heap.size, 2, none⟩ = some (.string k) ∧ w'.cell? ⟨w.heap.size, 4, none⟩ = some (.slice TA tn tc)) ws.drew := ⟨HXs.out.cell (j := 2) rfl, HXs.out.cell (j := 4) rfl⟩
  refine held_take (i := 0) (v := .pointer (some ⟨w.heap.size, 2, none⟩)) rfl (by kernel_rfl) (by kernel_rfl) (by kernel_rfl) (fun _ _ _ h => h) rfl (fun _ hS => by obtain ⟨e1, e2⟩ := hS; go_simp) HSW ?_
  simp only [Act.put, List.setIfInBounds_toArray, List.set_cons_succ, List.set_cons_zero, List.getElem_toArray, List.getElem_cons_succ, List.getElem_cons_zero]
  refine held_take (i := 1) (v := .string k) rfl (by kernel_rfl) (by kernel_rfl) (by kernel_rfl) (fun _ _ _ h => h) rfl (fun _ hS => by obtain ⟨e1, e2⟩ := hS; go_simp) HSW ?_
  simp only [Act.put, List.setIfInBounds_toArray, List.set_cons_succ, List.set_cons_zero, List.getElem_toArray, List.getElem_cons_succ, List.getElem_cons_zero]
  refine held_take (i := 2) (v := .pointer (some ⟨w.heap.size, 4, none⟩)) rfl (by kernel_rfl) (by kernel_rfl) (by kernel_rfl) (fun _ _ _ h => h) rfl (fun _ hS => by obtain ⟨e1, e2⟩ := hS; go_simp) HSW ?_
  simp only [Act.put, List.setIfInBounds_toArray, List.set_cons_succ, List.set_cons_zero, List.getElem_toArray, List.getElem_cons_succ, List.getElem_cons_zero]
  refine held_take (i := 3) (v := .slice TA tn tc) rfl (by kernel_rfl) (by kernel_rfl) (by kernel_rfl) (fun _ _ _ h => h) rfl (fun _ hS => by obtain ⟨e1, e2⟩ := hS; go_simp) HSW ?_
  simp only [Act.put, List.setIfInBounds_toArray, List.set_cons_succ, List.set_cons_zero, List.getElem_toArray, List.getElem_cons_succ, List.getElem_cons_zero]
  refine held_take (i := 5) (v := .slice A1 n1 c1) rfl (by kernel_rfl) (by kernel_rfl) (by kernel_rfl) (fun _ _ _ h => h) rfl (fun _ hS => by obtain ⟨e1, e2⟩ := hS; go_simp) HSW ?_
  simp only [Act.put, List.setIfInBounds_toArray, List.set_cons_succ, List.set_cons_zero, List.getElem_toArray, List.getElem_cons_succ, List.getElem_cons_zero]
  refine held_call (i := 4) (by kernel_rfl) rfl rfl rfl (enters_of Try.func39 (by kernel_rfl) rfl) [.slice TA tn tc] rfl (told_open (F := Sn (w.heap.size + 1) S) (HP.out.stay (.beneath (HBs.out.trans (Below.refl _ _).drew) (fun b _ h => HS.out b h) fun _ _ h => .inl h))) ?_
  rintro e w2 ⟨A2, d2, zt, rfl, hvt, hrow2, hB2⟩
  have hB2' : Below ws.heap.size ws w2 := (Below.refl _ _).drew.trans hB2
  have hX2 := HXs.out.below hB2' HXs.out.lt
  have HSW2 : (fun w' : World => w'.cell? ⟨w.heap.size, 2, none⟩ = some (.string k) ∧ w'.cell? ⟨w.heap.size, 4, none⟩ = some (.slice TA tn tc)) w2 := ⟨hX2.cell (j := 2) rfl, hX2.cell (j := 4) rfl⟩
  refine ⟨_, rfl, HSW2, ?_⟩
  simp only [Act.put, List.setIfInBounds_toArray, List.set_cons_succ, List.set_cons_zero, List.getElem_toArray, List.getElem_cons_succ, List.getElem_cons_zero]
  have hK2 : RdF w2 (fun b => Sn (w.heap.size + 1) S b ∧ b < ws.heap.size) A1 n1 c1 K := (HRs.out.stay (.weaken ws fun b hb h => ⟨h, hb⟩) : RdF ws (fun b => Sn (w.heap.size + 1) S b ∧ b < ws.heap.size) A1 n1 c1 K).stay (.below hB2' fun _ _ h => h)
  obtain ⟨zK, hzK, hZK⟩ := hK2.z
  have hzKl := hZK.len
  have hztl : zt.length ≤ 1 := by have := toldT_len tx; rw [← hvt, vz_len] at this; exact this
  refine held_one (i := 6) (by kernel_rfl) rfl rfl (wp_rows (.tmp 29) (.tmp 30) rfl rfl hrow2 rfl hZK (fun b _ h => ⟨.inl h, fun e => by
    have h1 := (hrow2.low b e).1
    have h2 := h.2
    exact absurd h1 (Nat.not_le_of_lt h2)⟩) (by omega) hB2.size ?_)
  intro A3 c3 w3 hrow3 hg3 hat3
  have hB3 : Below ws.heap.size w2 w3 := hrow2.grown_below hg3 hB2.size
  have hX3 := hX2.below hB3 HXs.out.lt
  have HSW3 : (fun w' : World => w'.cell? ⟨w.heap.size, 2, none⟩ = some (.string k) ∧ w'.cell? ⟨w.heap.size, 4, none⟩ = some (.slice TA tn tc)) w3 := ⟨hX3.cell (j := 2) rfl, hX3.cell (j := 4) rfl⟩
  refine ⟨HSW3, ?_⟩
  simp only [Act.put, List.setIfInBounds_toArray, List.set_cons_succ, List.set_cons_zero, List.getElem_toArray, List.getElem_cons_succ, List.getElem_cons_zero]
  have hZ3 : w.heap.size + 1 ≤ w3.heap.size := Nat.le_trans HZs.out (Nat.le_trans hB2'.size hB3.size)
  have hR3 : RdF w3 (Sn (w.heap.size + 1) S) A3 (zt.length + zK.length) c3 (toldT tx ++ K) := by
    have := hrow3.rd (S' := Sn (w.heap.size + 1) S) fun b _ h => h.elim (fun h => h.1) (fun h => HF.out b (Nat.le_trans HZs.out h))
    rwa [vz_append, hvt, hzK] at this
  refine held_call (i := 7) (by kernel_rfl) rfl rfl rfl (enters_of Try.func40 (by kernel_rfl) rfl) [.string k, .slice A3 (zt.length + zK.length) c3] rfl (fit_open (fitP k HPAR.out) (fun t ht => (List.mem_append.1 ht).elim (toldT_good tx t) (HKG.out t)) (by omega) (fun b h => HF.out b (Nat.le_trans hZ3 h)) hR3) ?_
  rintro e w4 ⟨A4, n4, c4, rfl, hr4, hB4⟩
  have hX4 := hX3.below hB4 hX3.lt
  have HSW4 : (fun w' : World => w'.cell? ⟨w.heap.size, 2, none⟩ = some (.string k) ∧ w'.cell? ⟨w.heap.size, 4, none⟩ = some (.slice TA tn tc)) w4 := ⟨hX4.cell (j := 2) rfl, hX4.cell (j := 4) rfl⟩
  refine ⟨_, rfl, HSW4, ?_⟩
  simp only [Act.put, List.setIfInBounds_toArray, List.set_cons_succ, List.set_cons_zero, List.getElem_toArray, List.getElem_cons_succ, List.getElem_cons_zero]
  refine held_take (i := 8) (v := .pointer (some ⟨w.heap.size, 5, none⟩)) rfl (by kernel_rfl) (by kernel_rfl) (by kernel_rfl) (fun _ _ _ h => h) rfl (fun _ hS => by obtain ⟨e1, e2⟩ := hS; go_simp) HSW4 ?_
  simp only [Act.put, List.setIfInBounds_toArray, List.set_cons_succ, List.set_cons_zero, List.getElem_toArray, List.getElem_cons_succ, List.getElem_cons_zero]
  have k5 : w4.cell? ⟨w.heap.size, 5, none⟩ = some (.slice none 0 0) := hX4.cell (j := 5) rfl
  have f5 : w4.frozen? ⟨w.heap.size, 5, none⟩ = false := hX4.frozen
  have hX5 : BoxN (w4.setCell ⟨w.heap.size, 5, none⟩ (.slice A4 n4 c4)) w.heap.size #[.int .i64 n, .int .i64 r, .string k, .slice AA an ac, .slice TA tn tc, .slice A4 n4 c4] 31 := hX4.setAt 5 (.slice A4 n4 c4)
  have HSW5 : (fun w' : World => w'.cell? ⟨w.heap.size, 2, none⟩ = some (.string k) ∧ w'.cell? ⟨w.heap.size, 4, none⟩ = some (.slice TA tn tc)) (w4.setCell ⟨w.heap.size, 5, none⟩ (.slice A4 n4 c4)) := ⟨hX5.cell (j := 2) rfl, hX5.cell (j := 4) rfl⟩
  have hB5 : Below w.heap.size w (w4.setCell ⟨w.heap.size, 5, none⟩ (.slice A4 n4 c4)) := (HBs.out.trans ((hB2'.mono (by have := HZs.out; omega)).trans ((hB3.mono (by have := HZs.out; omega)).trans (hB4.mono (by omega))))).setCell (p := ⟨w.heap.size, 5, none⟩) (Nat.le_refl _) _
  have hR5 : RdF (w4.setCell ⟨w.heap.size, 5, none⟩ (.slice A4 n4 c4)) (Sn (w.heap.size + 1) S) A4 n4 c4 (fitT (kd k) (toldT tx ++ K)) := hr4.stay (set_stay _ (sn_ne HS.out) fun _ h => h)
  have hZ5 : w.heap.size + 1 ≤ (w4.setCell ⟨w.heap.size, 5, none⟩ (.slice A4 n4 c4)).heap.size := by have := hX5.lt; omega
  refine held_one (i := 9) (by kernel_rfl) rfl rfl ?_
  simp only [Act.put, List.setIfInBounds_toArray, List.set_cons_succ, List.set_cons_zero, List.getElem_toArray, List.getElem_cons_succ, List.getElem_cons_zero]
  clear HSW HSW2 HSW3 HSW4 hX2 hX3 hrow2 hrow3 hg3 hat3 hB2 hB2' hB3 hB4 hZK hK2 hR3 hvt hzK hr4 hX4
  go_simp
  refine ⟨by kernel_rfl, ?_⟩
  clear HSW5 k5 f5
  generalize w4.setCell ⟨w.heap.size, 5, none⟩ (.slice A4 n4 c4) = w5 at *
  have HX5 := Lib.hid hX5
  have HB5 := Lib.hid hB5
  have HR5 := Lib.hid hR5
  have HZ5 := Lib.hid hZ5
  have w5c0 : w5.cell? ⟨w.heap.size, 0, none⟩ = some (.int .i64 n) := hX5.cell (j := 0) rfl
  have w5c1 : w5.cell? ⟨w.heap.size, 1, none⟩ = some (.int .i64 r) := hX5.cell (j := 1) rfl
  have w5c2 : w5.cell? ⟨w.heap.size, 2, none⟩ = some (.string k) := hX5.cell (j := 2) rfl
  have w5c3 : w5.cell? ⟨w.heap.size, 3, none⟩ = some (.slice AA an ac) := hX5.cell (j := 3) rfl
  have w5c4 : w5.cell? ⟨w.heap.size, 4, none⟩ = some (.slice TA tn tc) := hX5.cell (j := 4) rfl
  have w5c5 : w5.cell? ⟨w.heap.size, 5, none⟩ = some (.slice A4 n4 c4) := hX5.cell (j := 5) rfl
  have w5f : ∀ jj, w5.frozen? ⟨w.heap.size, jj, none⟩ = false := fun jj => hX5.frozen
  have hn4 := hR5.length
  have hn4b : (n4 : Int) ≤ 9223372036854775807 := by obtain ⟨zz, _, hz⟩ := hR5; have := hz.cap; have := hz.max; omega
  clear hX5 hB5 hR5 hZ5 HXs HBs HRs HZs
  by_cases hz4 : n4 = 0
  · subst hz4
    have hL : fitT (kd k) (toldT tx ++ K) = [] := List.eq_nil_of_length_eq_zero hn4
    have HW : Hid (orLeast (kd k) (fitT (kd k) (toldT tx ++ K)) = [leastT (kd k)]) := Lib.hid (by rw [hL]; rfl)
    clear hL hn4
    go_wp2_with fail
    refine (least_openN (F := Sn (w.heap.size + 1) S) k (fun b h => HF.out b (Nat.le_trans HZ5.out (by simpa [World.setCell] using h)))).mono ?_
    rintro e w6 ⟨v, rfl, hv6, hB6⟩
    obtain ⟨q0, q1, q2, q3, q3n, q3c, q4, q4n, q4c, q5, q5n, q5c, qa, qt, qk, hue, -⟩ := hv6.parts
    have hue2 : v = #[.int .i64 q0, .int .i64 q1, .string q2, .slice q3 q3n q3c, .slice q4 q4n q4c, .slice q5 q5n q5c] := by rw [← Array.toArray_toList (xs := v), hue]
    subst hue2
    clear hue
    have hX5s : BoxN (w5.setCell ⟨w.heap.size, 4, none⟩ (.slice none 0 0)) w.heap.size #[.int .i64 n, .int .i64 r, .string k, .slice AA an ac, .slice none 0 0, .slice A4 0 c4] 31 := HX5.out.setAt 4 (.slice none 0 0)
    have hX6 := hX5s.below hB6 hX5s.lt
    have hB7 : Below w.heap.size w w6 := (HB5.out.setCell (p := ⟨w.heap.size, 4, none⟩) (Nat.le_refl _) _).trans (hB6.mono (by have := hX5s.lt; omega))
    have hne : ¬ w.heap.size = w6.heap.size := by have := hX6.lt; omega
    have h6lt := hX6.lt
    have hK7 := RdF.one (w := (w6.setCell ⟨w.heap.size, 5, none⟩ (.slice (some ⟨w6.heap.size, 0, none⟩) 1 1))) (S := Sn (w.heap.size + 1) S) (S' := Sn (w.heap.size + 1) S) #[.int .i64 q0, .int .i64 q1, .string q2, .slice q3 q3n q3c, .slice q4 q4n q4c, .slice q5 q5n q5c] _ (hv6.stay (set_stay (p := ⟨w.heap.size, 5, none⟩) (.slice (some ⟨w6.heap.size, 0, none⟩) 1 1) (sn_ne HS.out) fun _ h => h)) (fun _ _ h => h) w6.heap.size (by simp [World.setCell]) (.inr h6lt)
    have hB8 : Below w.heap.size w ((w6.setCell ⟨w.heap.size, 5, none⟩ (.slice (some ⟨w6.heap.size, 0, none⟩) 1 1)).alloc (.cells #[.int .i64 q0, .int .i64 q1, .string q2, .slice q3 q3n q3c, .slice q4 q4n q4c, .slice q5 q5n q5c] 31)) := (hB7.setCell (p := ⟨w.heap.size, 5, none⟩) (Nat.le_refl _) _).alloc (by have := hB7.size; simpa [World.setCell] using this) _
    have HK7 := Lib.hid hK7
    have HB8 := Lib.hid hB8
    have w6c0 : w6.cell? ⟨w.heap.size, 0, none⟩ = some (.int .i64 n) := hX6.cell (j := 0) rfl
    have w6c1 : w6.cell? ⟨w.heap.size, 1, none⟩ = some (.int .i64 r) := hX6.cell (j := 1) rfl
    have w6c2 : w6.cell? ⟨w.heap.size, 2, none⟩ = some (.string k) := hX6.cell (j := 2) rfl
    have w6c3 : w6.cell? ⟨w.heap.size, 3, none⟩ = some (.slice AA an ac) := hX6.cell (j := 3) rfl
    have w6c4 : w6.cell? ⟨w.heap.size, 4, none⟩ = some (.slice none 0 0) := hX6.cell (j := 4) rfl
    have w6c5 : w6.cell? ⟨w.heap.size, 5, none⟩ = some (.slice A4 0 c4) := hX6.cell (j := 5) rfl
    have w6f : ∀ jj, w6.frozen? ⟨w.heap.size, jj, none⟩ = false := fun jj => hX6.frozen
    clear hX5s hX6 hB6 hB7 hB8 hK7 hv6 w5c0 w5c1 w5c2 w5c3 w5c4 w5c5 w5f
    go_wp2_with fail
    go_ret
    rw [HW.out]
    have hBf := HB8.out
    have hv : NdF ((w6.setCell ⟨w.heap.size, 5, none⟩ (.slice (some ⟨w6.heap.size, 0, none⟩) 1 1)).alloc (.cells #[.int .i64 q0, .int .i64 q1, .string q2, .slice q3 q3n q3c, .slice q4 q4n q4c, .slice q5 q5n q5c] 31)) (Sn (w.heap.size + 1) S) [.int .i64 n, .int .i64 r, .string k, .slice AA an ac, .slice none 0 0, .slice (some ⟨w6.heap.size, 0, none⟩) 1 1] (.node n r k at_ [] [leastT (kd k)]) := NdF.node (HA.out.stay (.beneath hBf (fun b _ h => HS.out b h) fun _ _ h => .inl h)) (RdP.nil _ _) HK7.out
    have hv2 : NdF ((w6.setCell ⟨w.heap.size, 5, none⟩ (.slice (some ⟨w6.heap.size, 0, none⟩) 1 1)).alloc (.cells #[.int .i64 q0, .int .i64 q1, .string q2, .slice q3 q3n q3c, .slice q4 q4n q4c, .slice q5 q5n q5c] 31)) (Sn (w.heap.size + 1) S) (#[.int .i64 n, .int .i64 r, .string k, .slice AA an ac, .slice none 0 0, .slice (some ⟨w6.heap.size, 0, none⟩) 1 1] : Array Value).toList (.node n r k at_ [] [leastT (kd k)]) := hv
    refine ⟨_, _, _, rfl, RdF.one (w := ((w6.setCell ⟨w.heap.size, 5, none⟩ (.slice (some ⟨w6.heap.size, 0, none⟩) 1 1)).alloc (.cells #[.int .i64 q0, .int .i64 q1, .string q2, .slice q3 q3n q3c, .slice q4 q4n q4c, .slice q5 q5n q5c] 31))) (S := Sn (w.heap.size + 1) S) (S' := Sn w.heap.size S) #[.int .i64 n, .int .i64 r, .string k, .slice AA an ac, .slice none 0 0, .slice (some ⟨w6.heap.size, 0, none⟩) 1 1] (.node n r k at_ [] [leastT (kd k)]) hv2 (fun b _ h => sn_more b h) _ (by simp [World.setCell]) (.inr (by omega)), hBf.alloc hBf.size _⟩
  · have hL : fitT (kd k) (toldT tx ++ K) ≠ [] := fun e => hz4 (by rw [e] at hn4; exact hn4.symm)
    have HW : Hid (orLeast (kd k) (fitT (kd k) (toldT tx ++ K)) = fitT (kd k) (toldT tx ++ K)) := Lib.hid (if_neg hL)
    have hi : ¬ (n4 : Int) = 0 := by omega
    have g1 : ((n4 : Int) == 0) = false := by simpa using hi
    clear hL hn4 hi
    go_wp2_with fail
    go_ret
    rw [HW.out]
    have hBf := (HB5.out.setCell (p := ⟨w.heap.size, 4, none⟩) (Nat.le_refl _) (.slice none 0 0))
    have hv : NdF (w5.setCell ⟨w.heap.size, 4, none⟩ (.slice none 0 0)) (Sn (w.heap.size + 1) S) [.int .i64 n, .int .i64 r, .string k, .slice AA an ac, .slice none 0 0, .slice A4 n4 c4] (.node n r k at_ [] (fitT (kd k) (toldT tx ++ K))) := NdF.node (HA.out.stay (.beneath hBf (fun b _ h => HS.out b h) fun _ _ h => .inl h)) (RdP.nil _ _) (HR5.out.stay (set_stay _ (sn_ne HS.out) fun _ h => h))
    have hv2 : NdF (w5.setCell ⟨w.heap.size, 4, none⟩ (.slice none 0 0)) (Sn (w.heap.size + 1) S) (#[.int .i64 n, .int .i64 r, .string k, .slice AA an ac, .slice none 0 0, .slice A4 n4 c4] : Array Value).toList (.node n r k at_ [] (fitT (kd k) (toldT tx ++ K))) := hv
    refine ⟨_, _, _, rfl, RdF.one (w := (w5.setCell ⟨w.heap.size, 4, none⟩ (.slice none 0 0))) (S := Sn (w.heap.size + 1) S) (S' := Sn w.heap.size S) #[.int .i64 n, .int .i64 r, .string k, .slice AA an ac, .slice none 0 0, .slice A4 n4 c4] (.node n r k at_ [] (fitT (kd k) (toldT tx ++ K))) hv2 (fun b _ h => sn_more b h) _ (by simp [World.setCell]) (.inr (by have := HX5.out.lt; omega)), hBf.alloc hBf.size _⟩

set_option maxRecDepth 100000 in
set_option maxHeartbeats 2000000 in
theorem node51_table (N : Nat) (hR : RowC 41 N) (n r : Int) (k : ByteArray) (at_ : List Att) (tx : List Pce) (ks : List RT) (hk : kd k = .table) (h1 : rsizeL ks < N) (h2 : rsizeL ks ≤ 100000)
    (w : World) (S : Nat → Prop) (AA : Option Addr) (an ac : Nat) (TA : Option Addr) (tn tc : Nat) (A : Option Addr) (m c : Nat) (hS : ∀ b, S b → b < w.heap.size) (ha : RdAF w S AA an ac at_) (hp : RdPF w S TA tn tc tx) (hks : RdF w S A m c ks) :
    Calls Try.prog 51 #[.agg #[.int .i64 n, .int .i64 r, .string k, .slice AA an ac, .slice TA tn tc, .slice A m c]] w (GivesR w S (nodeK n r k at_ tx (rowT ks))) := by
  have hB0 : Below w.heap.size w (w.alloc (.cells #[.int .i64 n, .int .i64 r, .string k, .slice AA an ac, .slice TA tn tc, .slice A m c] 31)) := blAl _
  have hF : ∀ b, w.heap.size + 1 ≤ b → Sn (w.heap.size + 1) S b := fun b h => .inr h
  have hs0 : (w.alloc (.cells #[.int .i64 n, .int .i64 r, .string k, .slice AA an ac, .slice TA tn tc, .slice A m c] 31)).heap.size = w.heap.size + 1 := World.size_alloc _ _
  have HC := Lib.hid (row_open (W := w.alloc (.cells #[.int .i64 n, .int .i64 r, .string k, .slice AA an ac, .slice TA tn tc, .slice A m c] 31)) (F := Sn (w.heap.size + 1) S) hR h1 h2 (fun b h => hF b (by rw [← hs0]; exact h)) (hks.stay (.below hB0 fun _ _ h => .inl h)))
  have hKL : (rowT ks).length ≤ 500000 := Nat.le_trans (rowT_len ks) (by omega)
  have hKG := rowT_good ks
  have X0 := BoxN.made w #[.int .i64 n, .int .i64 r, .string k, .slice AA an ac, .slice TA tn tc, .slice A m c] 31
  have HX0 := Lib.hid X0
  have HS := Lib.hid hS
  have HA := Lib.hid ha
  have HP := Lib.hid hp
  have HB0 := Lib.hid hB0
  have HF := Lib.hid hF
  have HS0 := Lib.hid hs0
  have HKL := Lib.hid hKL
  have HKG := Lib.hid hKG
  generalize rowT ks = K at *
  clear hS ha hp hks hB0 hF hs0 hKL hKG X0 hR h1 h2
  have qitem : (k.toList == [105, 116, 101, 109]) = false := by rw [is_item, hk]; rfl
  have qcell : (k.toList == [99, 101, 108, 108]) = false := by rw [is_cell, hk]; rfl
  have qquote : (k.toList == [113, 117, 111, 116, 101]) = false := by rw [is_quote, hk]; rfl
  have qlist : (k.toList == [108, 105, 115, 116]) = false := by rw [is_list, hk]; rfl
  have qtable : (k.toList == [116, 97, 98, 108, 101]) = true := by rw [is_table, hk]; rfl
  have qrow : (k.toList == [114, 111, 119]) = false := by rw [is_row, hk]; rfl
  have qhead : (k.toList == [104, 101, 97, 100]) = false := by rw [is_head, hk]; rfl
  have hw : nodeK n r k at_ tx K = [.node n r k at_ [] (orLeast (kd k) (fitT (kd k) (toldT tx ++ K)))] := by unfold nodeK; rw [hk]
  rw [hw]
  have hpar : Par (kd k) := by rw [hk]; simp [Par]
  have HPAR := Lib.hid hpar
  clear hw hk hpar
  go_enter Try.func51, Try.ntmps51
  go_wp2_with fail
  refine HC.out.mono ?_
  rintro e w1 ⟨A1, n1, c1, rfl, hr1, hB1⟩
  have hX1 := HX0.out.below hB1 HX0.out.lt
  have HX1 := Lib.hid hX1
  have HB1 := Lib.hid (HB0.out.trans (hB1.mono HB0.out.size))
  have HZ1 : Hid (w.heap.size + 1 ≤ w1.heap.size) := Lib.hid (by have := hB1.size; rw [HS0.out] at this; exact this)
  have HR1 := Lib.hid hr1
  have w1c0 : w1.cell? ⟨w.heap.size, 0, none⟩ = some (.int .i64 n) := hX1.cell (j := 0) rfl
  have w1c1 : w1.cell? ⟨w.heap.size, 1, none⟩ = some (.int .i64 r) := hX1.cell (j := 1) rfl
  have w1c2 : w1.cell? ⟨w.heap.size, 2, none⟩ = some (.string k) := hX1.cell (j := 2) rfl
  have w1c3 : w1.cell? ⟨w.heap.size, 3, none⟩ = some (.slice AA an ac) := hX1.cell (j := 3) rfl
  have w1c4 : w1.cell? ⟨w.heap.size, 4, none⟩ = some (.slice TA tn tc) := hX1.cell (j := 4) rfl
  have w1c5 : w1.cell? ⟨w.heap.size, 5, none⟩ = some (.slice A m c) := hX1.cell (j := 5) rfl
  have w1f : ∀ jj, w1.frozen? ⟨w.heap.size, jj, none⟩ = false := fun jj => hX1.frozen
  clear hX1 hr1 hB1 HC HX0 HB0
  go_wp2_with fail
  have hXs : BoxN (w1.setCell ⟨w.heap.size, 5, none⟩ (.slice none 0 0)) w.heap.size #[.int .i64 n, .int .i64 r, .string k, .slice AA an ac, .slice TA tn tc, .slice none 0 0] 31 := HX1.out.setAt 5 (.slice none 0 0)
  have hBs : Below w.heap.size w (w1.setCell ⟨w.heap.size, 5, none⟩ (.slice none 0 0)) := HB1.out.setCell (p := ⟨w.heap.size, 5, none⟩) (Nat.le_refl _) _
  have hRs : RdF (w1.setCell ⟨w.heap.size, 5, none⟩ (.slice none 0 0)) (Sn (w.heap.size + 1) S) A1 n1 c1 K := HR1.out.stay (set_stay _ (sn_ne HS.out) fun _ h => h)
  have hzs : w.heap.size + 1 ≤ (w1.setCell ⟨w.heap.size, 5, none⟩ (.slice none 0 0)).heap.size := by have := HZ1.out; simpa [World.setCell] using this
  have hn1 : n1 ≤ 500000 := by have := HR1.out.length; have := HKL.out; omega
  clear HX1 HB1 HZ1 HR1 w1c0 w1c1 w1c2 w1c3 w1c4 w1c5 w1f
  generalize w1.setCell ⟨w.heap.size, 5, none⟩ (.slice none 0 0) = ws at *
  have HXs := Lib.hid hXs
  have HBs := Lib.hid hBs
  have HRs := Lib.hid hRs
  have HZs := Lib.hid hzs
  clear hXs hBs hRs hzs
  refine wp_region_held (S := (fun w' : World => w'.cell? ⟨w.heap.size, 2, none⟩ = some (.string k) ∧ w'.cell? ⟨w.heap.size, 4, none⟩ = some (.slice TA tn tc))) (by kernel_rfl) ?_
  change wpAnyH _ _ _ _ _ _ _ _ ws.drew
  have HSW : (fun w' : World => w'.cell? ⟨w.heap.size, 2, none⟩ = some (.string k) ∧ w'.cell? ⟨w.heap.size, 4, none⟩ = some (.slice TA tn tc)) ws.drew := ⟨HXs.out.cell (j := 2) rfl, HXs.out.cell (j := 4) rfl⟩
  refine held_take (i := 0) (v := .pointer (some ⟨w.heap.size, 2, none⟩)) rfl (by kernel_rfl) (by kernel_rfl) (by kernel_rfl) (fun _ _ _ h => h) rfl (fun _ hS => by obtain ⟨e1, e2⟩ := hS; go_simp) HSW ?_
  simp only [Act.put, List.setIfInBounds_toArray, List.set_cons_succ, List.set_cons_zero, List.getElem_toArray, List.getElem_cons_succ, List.getElem_cons_zero]
  refine held_take (i := 1) (v := .string k) rfl (by kernel_rfl) (by kernel_rfl) (by kernel_rfl) (fun _ _ _ h => h) rfl (fun _ hS => by obtain ⟨e1, e2⟩ := hS; go_simp) HSW ?_
  simp only [Act.put, List.setIfInBounds_toArray, List.set_cons_succ, List.set_cons_zero, List.getElem_toArray, List.getElem_cons_succ, List.getElem_cons_zero]
  refine held_take (i := 2) (v := .pointer (some ⟨w.heap.size, 4, none⟩)) rfl (by kernel_rfl) (by kernel_rfl) (by kernel_rfl) (fun _ _ _ h => h) rfl (fun _ hS => by obtain ⟨e1, e2⟩ := hS; go_simp) HSW ?_
  simp only [Act.put, List.setIfInBounds_toArray, List.set_cons_succ, List.set_cons_zero, List.getElem_toArray, List.getElem_cons_succ, List.getElem_cons_zero]
  refine held_take (i := 3) (v := .slice TA tn tc) rfl (by kernel_rfl) (by kernel_rfl) (by kernel_rfl) (fun _ _ _ h => h) rfl (fun _ hS => by obtain ⟨e1, e2⟩ := hS; go_simp) HSW ?_
  simp only [Act.put, List.setIfInBounds_toArray, List.set_cons_succ, List.set_cons_zero, List.getElem_toArray, List.getElem_cons_succ, List.getElem_cons_zero]
  refine held_take (i := 5) (v := .slice A1 n1 c1) rfl (by kernel_rfl) (by kernel_rfl) (by kernel_rfl) (fun _ _ _ h => h) rfl (fun _ hS => by obtain ⟨e1, e2⟩ := hS; go_simp) HSW ?_
  simp only [Act.put, List.setIfInBounds_toArray, List.set_cons_succ, List.set_cons_zero, List.getElem_toArray, List.getElem_cons_succ, List.getElem_cons_zero]
  refine held_call (i := 4) (by kernel_rfl) rfl rfl rfl (enters_of Try.func39 (by kernel_rfl) rfl) [.slice TA tn tc] rfl (told_open (F := Sn (w.heap.size + 1) S) (HP.out.stay (.beneath (HBs.out.trans (Below.refl _ _).drew) (fun b _ h => HS.out b h) fun _ _ h => .inl h))) ?_
  rintro e w2 ⟨A2, d2, zt, rfl, hvt, hrow2, hB2⟩
  have hB2' : Below ws.heap.size ws w2 := (Below.refl _ _).drew.trans hB2
  have hX2 := HXs.out.below hB2' HXs.out.lt
  have HSW2 : (fun w' : World => w'.cell? ⟨w.heap.size, 2, none⟩ = some (.string k) ∧ w'.cell? ⟨w.heap.size, 4, none⟩ = some (.slice TA tn tc)) w2 := ⟨hX2.cell (j := 2) rfl, hX2.cell (j := 4) rfl⟩
  refine ⟨_, rfl, HSW2, ?_⟩
  simp only [Act.put, List.setIfInBounds_toArray, List.set_cons_succ, List.set_cons_zero, List.getElem_toArray, List.getElem_cons_succ, List.getElem_cons_zero]
  have hK2 : RdF w2 (fun b => Sn (w.heap.size + 1) S b ∧ b < ws.heap.size) A1 n1 c1 K := (HRs.out.stay (.weaken ws fun b hb h => ⟨h, hb⟩) : RdF ws (fun b => Sn (w.heap.size + 1) S b ∧ b < ws.heap.size) A1 n1 c1 K).stay (.below hB2' fun _ _ h => h)
  obtain ⟨zK, hzK, hZK⟩ := hK2.z
  have hzKl := hZK.len
  have hztl : zt.length ≤ 1 := by have := toldT_len tx; rw [← hvt, vz_len] at this; exact this
  refine held_one (i := 6) (by kernel_rfl) rfl rfl (wp_rows (.tmp 29) (.tmp 30) rfl rfl hrow2 rfl hZK (fun b _ h => ⟨.inl h, fun e => by
    have h1 := (hrow2.low b e).1
    have h2 := h.2
    exact absurd h1 (Nat.not_le_of_lt h2)⟩) (by omega) hB2.size ?_)
  intro A3 c3 w3 hrow3 hg3 hat3
  have hB3 : Below ws.heap.size w2 w3 := hrow2.grown_below hg3 hB2.size
  have hX3 := hX2.below hB3 HXs.out.lt
  have HSW3 : (fun w' : World => w'.cell? ⟨w.heap.size, 2, none⟩ = some (.string k) ∧ w'.cell? ⟨w.heap.size, 4, none⟩ = some (.slice TA tn tc)) w3 := ⟨hX3.cell (j := 2) rfl, hX3.cell (j := 4) rfl⟩
  refine ⟨HSW3, ?_⟩
  simp only [Act.put, List.setIfInBounds_toArray, List.set_cons_succ, List.set_cons_zero, List.getElem_toArray, List.getElem_cons_succ, List.getElem_cons_zero]
  have hZ3 : w.heap.size + 1 ≤ w3.heap.size := Nat.le_trans HZs.out (Nat.le_trans hB2'.size hB3.size)
  have hR3 : RdF w3 (Sn (w.heap.size + 1) S) A3 (zt.length + zK.length) c3 (toldT tx ++ K) := by
    have := hrow3.rd (S' := Sn (w.heap.size + 1) S) fun b _ h => h.elim (fun h => h.1) (fun h => HF.out b (Nat.le_trans HZs.out h))
    rwa [vz_append, hvt, hzK] at this
  refine held_call (i := 7) (by kernel_rfl) rfl rfl rfl (enters_of Try.func40 (by kernel_rfl) rfl) [.string k, .slice A3 (zt.length + zK.length) c3] rfl (fit_open (fitP k HPAR.out) (fun t ht => (List.mem_append.1 ht).elim (toldT_good tx t) (HKG.out t)) (by omega) (fun b h => HF.out b (Nat.le_trans hZ3 h)) hR3) ?_
  rintro e w4 ⟨A4, n4, c4, rfl, hr4, hB4⟩
  have hX4 := hX3.below hB4 hX3.lt
  have HSW4 : (fun w' : World => w'.cell? ⟨w.heap.size, 2, none⟩ = some (.string k) ∧ w'.cell? ⟨w.heap.size, 4, none⟩ = some (.slice TA tn tc)) w4 := ⟨hX4.cell (j := 2) rfl, hX4.cell (j := 4) rfl⟩
  refine ⟨_, rfl, HSW4, ?_⟩
  simp only [Act.put, List.setIfInBounds_toArray, List.set_cons_succ, List.set_cons_zero, List.getElem_toArray, List.getElem_cons_succ, List.getElem_cons_zero]
  refine held_take (i := 8) (v := .pointer (some ⟨w.heap.size, 5, none⟩)) rfl (by kernel_rfl) (by kernel_rfl) (by kernel_rfl) (fun _ _ _ h => h) rfl (fun _ hS => by obtain ⟨e1, e2⟩ := hS; go_simp) HSW4 ?_
  simp only [Act.put, List.setIfInBounds_toArray, List.set_cons_succ, List.set_cons_zero, List.getElem_toArray, List.getElem_cons_succ, List.getElem_cons_zero]
  have k5 : w4.cell? ⟨w.heap.size, 5, none⟩ = some (.slice none 0 0) := hX4.cell (j := 5) rfl
  have f5 : w4.frozen? ⟨w.heap.size, 5, none⟩ = false := hX4.frozen
  have hX5 : BoxN (w4.setCell ⟨w.heap.size, 5, none⟩ (.slice A4 n4 c4)) w.heap.size #[.int .i64 n, .int .i64 r, .string k, .slice AA an ac, .slice TA tn tc, .slice A4 n4 c4] 31 := hX4.setAt 5 (.slice A4 n4 c4)
  have HSW5 : (fun w' : World => w'.cell? ⟨w.heap.size, 2, none⟩ = some (.string k) ∧ w'.cell? ⟨w.heap.size, 4, none⟩ = some (.slice TA tn tc)) (w4.setCell ⟨w.heap.size, 5, none⟩ (.slice A4 n4 c4)) := ⟨hX5.cell (j := 2) rfl, hX5.cell (j := 4) rfl⟩
  have hB5 : Below w.heap.size w (w4.setCell ⟨w.heap.size, 5, none⟩ (.slice A4 n4 c4)) := (HBs.out.trans ((hB2'.mono (by have := HZs.out; omega)).trans ((hB3.mono (by have := HZs.out; omega)).trans (hB4.mono (by omega))))).setCell (p := ⟨w.heap.size, 5, none⟩) (Nat.le_refl _) _
  have hR5 : RdF (w4.setCell ⟨w.heap.size, 5, none⟩ (.slice A4 n4 c4)) (Sn (w.heap.size + 1) S) A4 n4 c4 (fitT (kd k) (toldT tx ++ K)) := hr4.stay (set_stay _ (sn_ne HS.out) fun _ h => h)
  have hZ5 : w.heap.size + 1 ≤ (w4.setCell ⟨w.heap.size, 5, none⟩ (.slice A4 n4 c4)).heap.size := by have := hX5.lt; omega
  refine held_one (i := 9) (by kernel_rfl) rfl rfl ?_
  simp only [Act.put, List.setIfInBounds_toArray, List.set_cons_succ, List.set_cons_zero, List.getElem_toArray, List.getElem_cons_succ, List.getElem_cons_zero]
  clear HSW HSW2 HSW3 HSW4 hX2 hX3 hrow2 hrow3 hg3 hat3 hB2 hB2' hB3 hB4 hZK hK2 hR3 hvt hzK hr4 hX4
  go_simp
  refine ⟨by kernel_rfl, ?_⟩
  clear HSW5 k5 f5
  generalize w4.setCell ⟨w.heap.size, 5, none⟩ (.slice A4 n4 c4) = w5 at *
  have HX5 := Lib.hid hX5
  have HB5 := Lib.hid hB5
  have HR5 := Lib.hid hR5
  have HZ5 := Lib.hid hZ5
  have w5c0 : w5.cell? ⟨w.heap.size, 0, none⟩ = some (.int .i64 n) := hX5.cell (j := 0) rfl
  have w5c1 : w5.cell? ⟨w.heap.size, 1, none⟩ = some (.int .i64 r) := hX5.cell (j := 1) rfl
  have w5c2 : w5.cell? ⟨w.heap.size, 2, none⟩ = some (.string k) := hX5.cell (j := 2) rfl
  have w5c3 : w5.cell? ⟨w.heap.size, 3, none⟩ = some (.slice AA an ac) := hX5.cell (j := 3) rfl
  have w5c4 : w5.cell? ⟨w.heap.size, 4, none⟩ = some (.slice TA tn tc) := hX5.cell (j := 4) rfl
  have w5c5 : w5.cell? ⟨w.heap.size, 5, none⟩ = some (.slice A4 n4 c4) := hX5.cell (j := 5) rfl
  have w5f : ∀ jj, w5.frozen? ⟨w.heap.size, jj, none⟩ = false := fun jj => hX5.frozen
  have hn4 := hR5.length
  have hn4b : (n4 : Int) ≤ 9223372036854775807 := by obtain ⟨zz, _, hz⟩ := hR5; have := hz.cap; have := hz.max; omega
  clear hX5 hB5 hR5 hZ5 HXs HBs HRs HZs
  by_cases hz4 : n4 = 0
  · subst hz4
    have hL : fitT (kd k) (toldT tx ++ K) = [] := List.eq_nil_of_length_eq_zero hn4
    have HW : Hid (orLeast (kd k) (fitT (kd k) (toldT tx ++ K)) = [leastT (kd k)]) := Lib.hid (by rw [hL]; rfl)
    clear hL hn4
    go_wp2_with fail
    refine (least_openN (F := Sn (w.heap.size + 1) S) k (fun b h => HF.out b (Nat.le_trans HZ5.out (by simpa [World.setCell] using h)))).mono ?_
    rintro e w6 ⟨v, rfl, hv6, hB6⟩
    obtain ⟨q0, q1, q2, q3, q3n, q3c, q4, q4n, q4c, q5, q5n, q5c, qa, qt, qk, hue, -⟩ := hv6.parts
    have hue2 : v = #[.int .i64 q0, .int .i64 q1, .string q2, .slice q3 q3n q3c, .slice q4 q4n q4c, .slice q5 q5n q5c] := by rw [← Array.toArray_toList (xs := v), hue]
    subst hue2
    clear hue
    have hX5s : BoxN (w5.setCell ⟨w.heap.size, 4, none⟩ (.slice none 0 0)) w.heap.size #[.int .i64 n, .int .i64 r, .string k, .slice AA an ac, .slice none 0 0, .slice A4 0 c4] 31 := HX5.out.setAt 4 (.slice none 0 0)
    have hX6 := hX5s.below hB6 hX5s.lt
    have hB7 : Below w.heap.size w w6 := (HB5.out.setCell (p := ⟨w.heap.size, 4, none⟩) (Nat.le_refl _) _).trans (hB6.mono (by have := hX5s.lt; omega))
    have hne : ¬ w.heap.size = w6.heap.size := by have := hX6.lt; omega
    have h6lt := hX6.lt
    have hK7 := RdF.one (w := (w6.setCell ⟨w.heap.size, 5, none⟩ (.slice (some ⟨w6.heap.size, 0, none⟩) 1 1))) (S := Sn (w.heap.size + 1) S) (S' := Sn (w.heap.size + 1) S) #[.int .i64 q0, .int .i64 q1, .string q2, .slice q3 q3n q3c, .slice q4 q4n q4c, .slice q5 q5n q5c] _ (hv6.stay (set_stay (p := ⟨w.heap.size, 5, none⟩) (.slice (some ⟨w6.heap.size, 0, none⟩) 1 1) (sn_ne HS.out) fun _ h => h)) (fun _ _ h => h) w6.heap.size (by simp [World.setCell]) (.inr h6lt)
    have hB8 : Below w.heap.size w ((w6.setCell ⟨w.heap.size, 5, none⟩ (.slice (some ⟨w6.heap.size, 0, none⟩) 1 1)).alloc (.cells #[.int .i64 q0, .int .i64 q1, .string q2, .slice q3 q3n q3c, .slice q4 q4n q4c, .slice q5 q5n q5c] 31)) := (hB7.setCell (p := ⟨w.heap.size, 5, none⟩) (Nat.le_refl _) _).alloc (by have := hB7.size; simpa [World.setCell] using this) _
    have HK7 := Lib.hid hK7
    have HB8 := Lib.hid hB8
    have w6c0 : w6.cell? ⟨w.heap.size, 0, none⟩ = some (.int .i64 n) := hX6.cell (j := 0) rfl
    have w6c1 : w6.cell? ⟨w.heap.size, 1, none⟩ = some (.int .i64 r) := hX6.cell (j := 1) rfl
    have w6c2 : w6.cell? ⟨w.heap.size, 2, none⟩ = some (.string k) := hX6.cell (j := 2) rfl
    have w6c3 : w6.cell? ⟨w.heap.size, 3, none⟩ = some (.slice AA an ac) := hX6.cell (j := 3) rfl
    have w6c4 : w6.cell? ⟨w.heap.size, 4, none⟩ = some (.slice none 0 0) := hX6.cell (j := 4) rfl
    have w6c5 : w6.cell? ⟨w.heap.size, 5, none⟩ = some (.slice A4 0 c4) := hX6.cell (j := 5) rfl
    have w6f : ∀ jj, w6.frozen? ⟨w.heap.size, jj, none⟩ = false := fun jj => hX6.frozen
    clear hX5s hX6 hB6 hB7 hB8 hK7 hv6 w5c0 w5c1 w5c2 w5c3 w5c4 w5c5 w5f
    go_wp2_with fail
    go_ret
    rw [HW.out]
    have hBf := HB8.out
    have hv : NdF ((w6.setCell ⟨w.heap.size, 5, none⟩ (.slice (some ⟨w6.heap.size, 0, none⟩) 1 1)).alloc (.cells #[.int .i64 q0, .int .i64 q1, .string q2, .slice q3 q3n q3c, .slice q4 q4n q4c, .slice q5 q5n q5c] 31)) (Sn (w.heap.size + 1) S) [.int .i64 n, .int .i64 r, .string k, .slice AA an ac, .slice none 0 0, .slice (some ⟨w6.heap.size, 0, none⟩) 1 1] (.node n r k at_ [] [leastT (kd k)]) := NdF.node (HA.out.stay (.beneath hBf (fun b _ h => HS.out b h) fun _ _ h => .inl h)) (RdP.nil _ _) HK7.out
    have hv2 : NdF ((w6.setCell ⟨w.heap.size, 5, none⟩ (.slice (some ⟨w6.heap.size, 0, none⟩) 1 1)).alloc (.cells #[.int .i64 q0, .int .i64 q1, .string q2, .slice q3 q3n q3c, .slice q4 q4n q4c, .slice q5 q5n q5c] 31)) (Sn (w.heap.size + 1) S) (#[.int .i64 n, .int .i64 r, .string k, .slice AA an ac, .slice none 0 0, .slice (some ⟨w6.heap.size, 0, none⟩) 1 1] : Array Value).toList (.node n r k at_ [] [leastT (kd k)]) := hv
    refine ⟨_, _, _, rfl, RdF.one (w := ((w6.setCell ⟨w.heap.size, 5, none⟩ (.slice (some ⟨w6.heap.size, 0, none⟩) 1 1)).alloc (.cells #[.int .i64 q0, .int .i64 q1, .string q2, .slice q3 q3n q3c, .slice q4 q4n q4c, .slice q5 q5n q5c] 31))) (S := Sn (w.heap.size + 1) S) (S' := Sn w.heap.size S) #[.int .i64 n, .int .i64 r, .string k, .slice AA an ac, .slice none 0 0, .slice (some ⟨w6.heap.size, 0, none⟩) 1 1] (.node n r k at_ [] [leastT (kd k)]) hv2 (fun b _ h => sn_more b h) _ (by simp [World.setCell]) (.inr (by omega)), hBf.alloc hBf.size _⟩
  · have hL : fitT (kd k) (toldT tx ++ K) ≠ [] := fun e => hz4 (by rw [e] at hn4; exact hn4.symm)
    have HW : Hid (orLeast (kd k) (fitT (kd k) (toldT tx ++ K)) = fitT (kd k) (toldT tx ++ K)) := Lib.hid (if_neg hL)
    have hi : ¬ (n4 : Int) = 0 := by omega
    have g1 : ((n4 : Int) == 0) = false := by simpa using hi
    clear hL hn4 hi
    go_wp2_with fail
    go_ret
    rw [HW.out]
    have hBf := (HB5.out.setCell (p := ⟨w.heap.size, 4, none⟩) (Nat.le_refl _) (.slice none 0 0))
    have hv : NdF (w5.setCell ⟨w.heap.size, 4, none⟩ (.slice none 0 0)) (Sn (w.heap.size + 1) S) [.int .i64 n, .int .i64 r, .string k, .slice AA an ac, .slice none 0 0, .slice A4 n4 c4] (.node n r k at_ [] (fitT (kd k) (toldT tx ++ K))) := NdF.node (HA.out.stay (.beneath hBf (fun b _ h => HS.out b h) fun _ _ h => .inl h)) (RdP.nil _ _) (HR5.out.stay (set_stay _ (sn_ne HS.out) fun _ h => h))
    have hv2 : NdF (w5.setCell ⟨w.heap.size, 4, none⟩ (.slice none 0 0)) (Sn (w.heap.size + 1) S) (#[.int .i64 n, .int .i64 r, .string k, .slice AA an ac, .slice none 0 0, .slice A4 n4 c4] : Array Value).toList (.node n r k at_ [] (fitT (kd k) (toldT tx ++ K))) := hv
    refine ⟨_, _, _, rfl, RdF.one (w := (w5.setCell ⟨w.heap.size, 4, none⟩ (.slice none 0 0))) (S := Sn (w.heap.size + 1) S) (S' := Sn w.heap.size S) #[.int .i64 n, .int .i64 r, .string k, .slice AA an ac, .slice none 0 0, .slice A4 n4 c4] (.node n r k at_ [] (fitT (kd k) (toldT tx ++ K))) hv2 (fun b _ h => sn_more b h) _ (by simp [World.setCell]) (.inr (by have := HX5.out.lt; omega)), hBf.alloc hBf.size _⟩

set_option maxRecDepth 100000 in
set_option maxHeartbeats 2000000 in
theorem node51_row (N : Nat) (hR : RowC 41 N) (n r : Int) (k : ByteArray) (at_ : List Att) (tx : List Pce) (ks : List RT) (hk : kd k = .row) (h1 : rsizeL ks < N) (h2 : rsizeL ks ≤ 100000)
    (w : World) (S : Nat → Prop) (AA : Option Addr) (an ac : Nat) (TA : Option Addr) (tn tc : Nat) (A : Option Addr) (m c : Nat) (hS : ∀ b, S b → b < w.heap.size) (ha : RdAF w S AA an ac at_) (hp : RdPF w S TA tn tc tx) (hks : RdF w S A m c ks) :
    Calls Try.prog 51 #[.agg #[.int .i64 n, .int .i64 r, .string k, .slice AA an ac, .slice TA tn tc, .slice A m c]] w (GivesR w S (nodeK n r k at_ tx (rowT ks))) := by
  have hB0 : Below w.heap.size w (w.alloc (.cells #[.int .i64 n, .int .i64 r, .string k, .slice AA an ac, .slice TA tn tc, .slice A m c] 31)) := blAl _
  have hF : ∀ b, w.heap.size + 1 ≤ b → Sn (w.heap.size + 1) S b := fun b h => .inr h
  have hs0 : (w.alloc (.cells #[.int .i64 n, .int .i64 r, .string k, .slice AA an ac, .slice TA tn tc, .slice A m c] 31)).heap.size = w.heap.size + 1 := World.size_alloc _ _
  have HC := Lib.hid (row_open (W := w.alloc (.cells #[.int .i64 n, .int .i64 r, .string k, .slice AA an ac, .slice TA tn tc, .slice A m c] 31)) (F := Sn (w.heap.size + 1) S) hR h1 h2 (fun b h => hF b (by rw [← hs0]; exact h)) (hks.stay (.below hB0 fun _ _ h => .inl h)))
  have hKL : (rowT ks).length ≤ 500000 := Nat.le_trans (rowT_len ks) (by omega)
  have hKG := rowT_good ks
  have X0 := BoxN.made w #[.int .i64 n, .int .i64 r, .string k, .slice AA an ac, .slice TA tn tc, .slice A m c] 31
  have HX0 := Lib.hid X0
  have HS := Lib.hid hS
  have HA := Lib.hid ha
  have HP := Lib.hid hp
  have HB0 := Lib.hid hB0
  have HF := Lib.hid hF
  have HS0 := Lib.hid hs0
  have HKL := Lib.hid hKL
  have HKG := Lib.hid hKG
  generalize rowT ks = K at *
  clear hS ha hp hks hB0 hF hs0 hKL hKG X0 hR h1 h2
  have qitem : (k.toList == [105, 116, 101, 109]) = false := by rw [is_item, hk]; rfl
  have qcell : (k.toList == [99, 101, 108, 108]) = false := by rw [is_cell, hk]; rfl
  have qquote : (k.toList == [113, 117, 111, 116, 101]) = false := by rw [is_quote, hk]; rfl
  have qlist : (k.toList == [108, 105, 115, 116]) = false := by rw [is_list, hk]; rfl
  have qtable : (k.toList == [116, 97, 98, 108, 101]) = false := by rw [is_table, hk]; rfl
  have qrow : (k.toList == [114, 111, 119]) = true := by rw [is_row, hk]; rfl
  have qhead : (k.toList == [104, 101, 97, 100]) = false := by rw [is_head, hk]; rfl
  have hw : nodeK n r k at_ tx K = [.node n r k at_ [] (orLeast (kd k) (fitT (kd k) (toldT tx ++ K)))] := by unfold nodeK; rw [hk]
  rw [hw]
  have hpar : Par (kd k) := by rw [hk]; simp [Par]
  have HPAR := Lib.hid hpar
  clear hw hk hpar
  go_enter Try.func51, Try.ntmps51
  go_wp2_with fail
  refine HC.out.mono ?_
  rintro e w1 ⟨A1, n1, c1, rfl, hr1, hB1⟩
  have hX1 := HX0.out.below hB1 HX0.out.lt
  have HX1 := Lib.hid hX1
  have HB1 := Lib.hid (HB0.out.trans (hB1.mono HB0.out.size))
  have HZ1 : Hid (w.heap.size + 1 ≤ w1.heap.size) := Lib.hid (by have := hB1.size; rw [HS0.out] at this; exact this)
  have HR1 := Lib.hid hr1
  have w1c0 : w1.cell? ⟨w.heap.size, 0, none⟩ = some (.int .i64 n) := hX1.cell (j := 0) rfl
  have w1c1 : w1.cell? ⟨w.heap.size, 1, none⟩ = some (.int .i64 r) := hX1.cell (j := 1) rfl
  have w1c2 : w1.cell? ⟨w.heap.size, 2, none⟩ = some (.string k) := hX1.cell (j := 2) rfl
  have w1c3 : w1.cell? ⟨w.heap.size, 3, none⟩ = some (.slice AA an ac) := hX1.cell (j := 3) rfl
  have w1c4 : w1.cell? ⟨w.heap.size, 4, none⟩ = some (.slice TA tn tc) := hX1.cell (j := 4) rfl
  have w1c5 : w1.cell? ⟨w.heap.size, 5, none⟩ = some (.slice A m c) := hX1.cell (j := 5) rfl
  have w1f : ∀ jj, w1.frozen? ⟨w.heap.size, jj, none⟩ = false := fun jj => hX1.frozen
  clear hX1 hr1 hB1 HC HX0 HB0
  go_wp2_with fail
  have hXs : BoxN (w1.setCell ⟨w.heap.size, 5, none⟩ (.slice none 0 0)) w.heap.size #[.int .i64 n, .int .i64 r, .string k, .slice AA an ac, .slice TA tn tc, .slice none 0 0] 31 := HX1.out.setAt 5 (.slice none 0 0)
  have hBs : Below w.heap.size w (w1.setCell ⟨w.heap.size, 5, none⟩ (.slice none 0 0)) := HB1.out.setCell (p := ⟨w.heap.size, 5, none⟩) (Nat.le_refl _) _
  have hRs : RdF (w1.setCell ⟨w.heap.size, 5, none⟩ (.slice none 0 0)) (Sn (w.heap.size + 1) S) A1 n1 c1 K := HR1.out.stay (set_stay _ (sn_ne HS.out) fun _ h => h)
  have hzs : w.heap.size + 1 ≤ (w1.setCell ⟨w.heap.size, 5, none⟩ (.slice none 0 0)).heap.size := by have := HZ1.out; simpa [World.setCell] using this
  have hn1 : n1 ≤ 500000 := by have := HR1.out.length; have := HKL.out; omega
  clear HX1 HB1 HZ1 HR1 w1c0 w1c1 w1c2 w1c3 w1c4 w1c5 w1f
  generalize w1.setCell ⟨w.heap.size, 5, none⟩ (.slice none 0 0) = ws at *
  have HXs := Lib.hid hXs
  have HBs := Lib.hid hBs
  have HRs := Lib.hid hRs
  have HZs := Lib.hid hzs
  clear hXs hBs hRs hzs
  refine wp_region_held (S := (fun w' : World => w'.cell? ⟨w.heap.size, 2, none⟩ = some (.string k) ∧ w'.cell? ⟨w.heap.size, 4, none⟩ = some (.slice TA tn tc))) (by kernel_rfl) ?_
  change wpAnyH _ _ _ _ _ _ _ _ ws.drew
  have HSW : (fun w' : World => w'.cell? ⟨w.heap.size, 2, none⟩ = some (.string k) ∧ w'.cell? ⟨w.heap.size, 4, none⟩ = some (.slice TA tn tc)) ws.drew := ⟨HXs.out.cell (j := 2) rfl, HXs.out.cell (j := 4) rfl⟩
  refine held_take (i := 0) (v := .pointer (some ⟨w.heap.size, 2, none⟩)) rfl (by kernel_rfl) (by kernel_rfl) (by kernel_rfl) (fun _ _ _ h => h) rfl (fun _ hS => by obtain ⟨e1, e2⟩ := hS; go_simp) HSW ?_
  simp only [Act.put, List.setIfInBounds_toArray, List.set_cons_succ, List.set_cons_zero, List.getElem_toArray, List.getElem_cons_succ, List.getElem_cons_zero]
  refine held_take (i := 1) (v := .string k) rfl (by kernel_rfl) (by kernel_rfl) (by kernel_rfl) (fun _ _ _ h => h) rfl (fun _ hS => by obtain ⟨e1, e2⟩ := hS; go_simp) HSW ?_
  simp only [Act.put, List.setIfInBounds_toArray, List.set_cons_succ, List.set_cons_zero, List.getElem_toArray, List.getElem_cons_succ, List.getElem_cons_zero]
  refine held_take (i := 2) (v := .pointer (some ⟨w.heap.size, 4, none⟩)) rfl (by kernel_rfl) (by kernel_rfl) (by kernel_rfl) (fun _ _ _ h => h) rfl (fun _ hS => by obtain ⟨e1, e2⟩ := hS; go_simp) HSW ?_
  simp only [Act.put, List.setIfInBounds_toArray, List.set_cons_succ, List.set_cons_zero, List.getElem_toArray, List.getElem_cons_succ, List.getElem_cons_zero]
  refine held_take (i := 3) (v := .slice TA tn tc) rfl (by kernel_rfl) (by kernel_rfl) (by kernel_rfl) (fun _ _ _ h => h) rfl (fun _ hS => by obtain ⟨e1, e2⟩ := hS; go_simp) HSW ?_
  simp only [Act.put, List.setIfInBounds_toArray, List.set_cons_succ, List.set_cons_zero, List.getElem_toArray, List.getElem_cons_succ, List.getElem_cons_zero]
  refine held_take (i := 5) (v := .slice A1 n1 c1) rfl (by kernel_rfl) (by kernel_rfl) (by kernel_rfl) (fun _ _ _ h => h) rfl (fun _ hS => by obtain ⟨e1, e2⟩ := hS; go_simp) HSW ?_
  simp only [Act.put, List.setIfInBounds_toArray, List.set_cons_succ, List.set_cons_zero, List.getElem_toArray, List.getElem_cons_succ, List.getElem_cons_zero]
  refine held_call (i := 4) (by kernel_rfl) rfl rfl rfl (enters_of Try.func39 (by kernel_rfl) rfl) [.slice TA tn tc] rfl (told_open (F := Sn (w.heap.size + 1) S) (HP.out.stay (.beneath (HBs.out.trans (Below.refl _ _).drew) (fun b _ h => HS.out b h) fun _ _ h => .inl h))) ?_
  rintro e w2 ⟨A2, d2, zt, rfl, hvt, hrow2, hB2⟩
  have hB2' : Below ws.heap.size ws w2 := (Below.refl _ _).drew.trans hB2
  have hX2 := HXs.out.below hB2' HXs.out.lt
  have HSW2 : (fun w' : World => w'.cell? ⟨w.heap.size, 2, none⟩ = some (.string k) ∧ w'.cell? ⟨w.heap.size, 4, none⟩ = some (.slice TA tn tc)) w2 := ⟨hX2.cell (j := 2) rfl, hX2.cell (j := 4) rfl⟩
  refine ⟨_, rfl, HSW2, ?_⟩
  simp only [Act.put, List.setIfInBounds_toArray, List.set_cons_succ, List.set_cons_zero, List.getElem_toArray, List.getElem_cons_succ, List.getElem_cons_zero]
  have hK2 : RdF w2 (fun b => Sn (w.heap.size + 1) S b ∧ b < ws.heap.size) A1 n1 c1 K := (HRs.out.stay (.weaken ws fun b hb h => ⟨h, hb⟩) : RdF ws (fun b => Sn (w.heap.size + 1) S b ∧ b < ws.heap.size) A1 n1 c1 K).stay (.below hB2' fun _ _ h => h)
  obtain ⟨zK, hzK, hZK⟩ := hK2.z
  have hzKl := hZK.len
  have hztl : zt.length ≤ 1 := by have := toldT_len tx; rw [← hvt, vz_len] at this; exact this
  refine held_one (i := 6) (by kernel_rfl) rfl rfl (wp_rows (.tmp 29) (.tmp 30) rfl rfl hrow2 rfl hZK (fun b _ h => ⟨.inl h, fun e => by
    have h1 := (hrow2.low b e).1
    have h2 := h.2
    exact absurd h1 (Nat.not_le_of_lt h2)⟩) (by omega) hB2.size ?_)
  intro A3 c3 w3 hrow3 hg3 hat3
  have hB3 : Below ws.heap.size w2 w3 := hrow2.grown_below hg3 hB2.size
  have hX3 := hX2.below hB3 HXs.out.lt
  have HSW3 : (fun w' : World => w'.cell? ⟨w.heap.size, 2, none⟩ = some (.string k) ∧ w'.cell? ⟨w.heap.size, 4, none⟩ = some (.slice TA tn tc)) w3 := ⟨hX3.cell (j := 2) rfl, hX3.cell (j := 4) rfl⟩
  refine ⟨HSW3, ?_⟩
  simp only [Act.put, List.setIfInBounds_toArray, List.set_cons_succ, List.set_cons_zero, List.getElem_toArray, List.getElem_cons_succ, List.getElem_cons_zero]
  have hZ3 : w.heap.size + 1 ≤ w3.heap.size := Nat.le_trans HZs.out (Nat.le_trans hB2'.size hB3.size)
  have hR3 : RdF w3 (Sn (w.heap.size + 1) S) A3 (zt.length + zK.length) c3 (toldT tx ++ K) := by
    have := hrow3.rd (S' := Sn (w.heap.size + 1) S) fun b _ h => h.elim (fun h => h.1) (fun h => HF.out b (Nat.le_trans HZs.out h))
    rwa [vz_append, hvt, hzK] at this
  refine held_call (i := 7) (by kernel_rfl) rfl rfl rfl (enters_of Try.func40 (by kernel_rfl) rfl) [.string k, .slice A3 (zt.length + zK.length) c3] rfl (fit_open (fitP k HPAR.out) (fun t ht => (List.mem_append.1 ht).elim (toldT_good tx t) (HKG.out t)) (by omega) (fun b h => HF.out b (Nat.le_trans hZ3 h)) hR3) ?_
  rintro e w4 ⟨A4, n4, c4, rfl, hr4, hB4⟩
  have hX4 := hX3.below hB4 hX3.lt
  have HSW4 : (fun w' : World => w'.cell? ⟨w.heap.size, 2, none⟩ = some (.string k) ∧ w'.cell? ⟨w.heap.size, 4, none⟩ = some (.slice TA tn tc)) w4 := ⟨hX4.cell (j := 2) rfl, hX4.cell (j := 4) rfl⟩
  refine ⟨_, rfl, HSW4, ?_⟩
  simp only [Act.put, List.setIfInBounds_toArray, List.set_cons_succ, List.set_cons_zero, List.getElem_toArray, List.getElem_cons_succ, List.getElem_cons_zero]
  refine held_take (i := 8) (v := .pointer (some ⟨w.heap.size, 5, none⟩)) rfl (by kernel_rfl) (by kernel_rfl) (by kernel_rfl) (fun _ _ _ h => h) rfl (fun _ hS => by obtain ⟨e1, e2⟩ := hS; go_simp) HSW4 ?_
  simp only [Act.put, List.setIfInBounds_toArray, List.set_cons_succ, List.set_cons_zero, List.getElem_toArray, List.getElem_cons_succ, List.getElem_cons_zero]
  have k5 : w4.cell? ⟨w.heap.size, 5, none⟩ = some (.slice none 0 0) := hX4.cell (j := 5) rfl
  have f5 : w4.frozen? ⟨w.heap.size, 5, none⟩ = false := hX4.frozen
  have hX5 : BoxN (w4.setCell ⟨w.heap.size, 5, none⟩ (.slice A4 n4 c4)) w.heap.size #[.int .i64 n, .int .i64 r, .string k, .slice AA an ac, .slice TA tn tc, .slice A4 n4 c4] 31 := hX4.setAt 5 (.slice A4 n4 c4)
  have HSW5 : (fun w' : World => w'.cell? ⟨w.heap.size, 2, none⟩ = some (.string k) ∧ w'.cell? ⟨w.heap.size, 4, none⟩ = some (.slice TA tn tc)) (w4.setCell ⟨w.heap.size, 5, none⟩ (.slice A4 n4 c4)) := ⟨hX5.cell (j := 2) rfl, hX5.cell (j := 4) rfl⟩
  have hB5 : Below w.heap.size w (w4.setCell ⟨w.heap.size, 5, none⟩ (.slice A4 n4 c4)) := (HBs.out.trans ((hB2'.mono (by have := HZs.out; omega)).trans ((hB3.mono (by have := HZs.out; omega)).trans (hB4.mono (by omega))))).setCell (p := ⟨w.heap.size, 5, none⟩) (Nat.le_refl _) _
  have hR5 : RdF (w4.setCell ⟨w.heap.size, 5, none⟩ (.slice A4 n4 c4)) (Sn (w.heap.size + 1) S) A4 n4 c4 (fitT (kd k) (toldT tx ++ K)) := hr4.stay (set_stay _ (sn_ne HS.out) fun _ h => h)
  have hZ5 : w.heap.size + 1 ≤ (w4.setCell ⟨w.heap.size, 5, none⟩ (.slice A4 n4 c4)).heap.size := by have := hX5.lt; omega
  refine held_one (i := 9) (by kernel_rfl) rfl rfl ?_
  simp only [Act.put, List.setIfInBounds_toArray, List.set_cons_succ, List.set_cons_zero, List.getElem_toArray, List.getElem_cons_succ, List.getElem_cons_zero]
  clear HSW HSW2 HSW3 HSW4 hX2 hX3 hrow2 hrow3 hg3 hat3 hB2 hB2' hB3 hB4 hZK hK2 hR3 hvt hzK hr4 hX4
  go_simp
  refine ⟨by kernel_rfl, ?_⟩
  clear HSW5 k5 f5
  generalize w4.setCell ⟨w.heap.size, 5, none⟩ (.slice A4 n4 c4) = w5 at *
  have HX5 := Lib.hid hX5
  have HB5 := Lib.hid hB5
  have HR5 := Lib.hid hR5
  have HZ5 := Lib.hid hZ5
  have w5c0 : w5.cell? ⟨w.heap.size, 0, none⟩ = some (.int .i64 n) := hX5.cell (j := 0) rfl
  have w5c1 : w5.cell? ⟨w.heap.size, 1, none⟩ = some (.int .i64 r) := hX5.cell (j := 1) rfl
  have w5c2 : w5.cell? ⟨w.heap.size, 2, none⟩ = some (.string k) := hX5.cell (j := 2) rfl
  have w5c3 : w5.cell? ⟨w.heap.size, 3, none⟩ = some (.slice AA an ac) := hX5.cell (j := 3) rfl
  have w5c4 : w5.cell? ⟨w.heap.size, 4, none⟩ = some (.slice TA tn tc) := hX5.cell (j := 4) rfl
  have w5c5 : w5.cell? ⟨w.heap.size, 5, none⟩ = some (.slice A4 n4 c4) := hX5.cell (j := 5) rfl
  have w5f : ∀ jj, w5.frozen? ⟨w.heap.size, jj, none⟩ = false := fun jj => hX5.frozen
  have hn4 := hR5.length
  have hn4b : (n4 : Int) ≤ 9223372036854775807 := by obtain ⟨zz, _, hz⟩ := hR5; have := hz.cap; have := hz.max; omega
  clear hX5 hB5 hR5 hZ5 HXs HBs HRs HZs
  by_cases hz4 : n4 = 0
  · subst hz4
    have hL : fitT (kd k) (toldT tx ++ K) = [] := List.eq_nil_of_length_eq_zero hn4
    have HW : Hid (orLeast (kd k) (fitT (kd k) (toldT tx ++ K)) = [leastT (kd k)]) := Lib.hid (by rw [hL]; rfl)
    clear hL hn4
    go_wp2_with fail
    refine (least_openN (F := Sn (w.heap.size + 1) S) k (fun b h => HF.out b (Nat.le_trans HZ5.out (by simpa [World.setCell] using h)))).mono ?_
    rintro e w6 ⟨v, rfl, hv6, hB6⟩
    obtain ⟨q0, q1, q2, q3, q3n, q3c, q4, q4n, q4c, q5, q5n, q5c, qa, qt, qk, hue, -⟩ := hv6.parts
    have hue2 : v = #[.int .i64 q0, .int .i64 q1, .string q2, .slice q3 q3n q3c, .slice q4 q4n q4c, .slice q5 q5n q5c] := by rw [← Array.toArray_toList (xs := v), hue]
    subst hue2
    clear hue
    have hX5s : BoxN (w5.setCell ⟨w.heap.size, 4, none⟩ (.slice none 0 0)) w.heap.size #[.int .i64 n, .int .i64 r, .string k, .slice AA an ac, .slice none 0 0, .slice A4 0 c4] 31 := HX5.out.setAt 4 (.slice none 0 0)
    have hX6 := hX5s.below hB6 hX5s.lt
    have hB7 : Below w.heap.size w w6 := (HB5.out.setCell (p := ⟨w.heap.size, 4, none⟩) (Nat.le_refl _) _).trans (hB6.mono (by have := hX5s.lt; omega))
    have hne : ¬ w.heap.size = w6.heap.size := by have := hX6.lt; omega
    have h6lt := hX6.lt
    have hK7 := RdF.one (w := (w6.setCell ⟨w.heap.size, 5, none⟩ (.slice (some ⟨w6.heap.size, 0, none⟩) 1 1))) (S := Sn (w.heap.size + 1) S) (S' := Sn (w.heap.size + 1) S) #[.int .i64 q0, .int .i64 q1, .string q2, .slice q3 q3n q3c, .slice q4 q4n q4c, .slice q5 q5n q5c] _ (hv6.stay (set_stay (p := ⟨w.heap.size, 5, none⟩) (.slice (some ⟨w6.heap.size, 0, none⟩) 1 1) (sn_ne HS.out) fun _ h => h)) (fun _ _ h => h) w6.heap.size (by simp [World.setCell]) (.inr h6lt)
    have hB8 : Below w.heap.size w ((w6.setCell ⟨w.heap.size, 5, none⟩ (.slice (some ⟨w6.heap.size, 0, none⟩) 1 1)).alloc (.cells #[.int .i64 q0, .int .i64 q1, .string q2, .slice q3 q3n q3c, .slice q4 q4n q4c, .slice q5 q5n q5c] 31)) := (hB7.setCell (p := ⟨w.heap.size, 5, none⟩) (Nat.le_refl _) _).alloc (by have := hB7.size; simpa [World.setCell] using this) _
    have HK7 := Lib.hid hK7
    have HB8 := Lib.hid hB8
    have w6c0 : w6.cell? ⟨w.heap.size, 0, none⟩ = some (.int .i64 n) := hX6.cell (j := 0) rfl
    have w6c1 : w6.cell? ⟨w.heap.size, 1, none⟩ = some (.int .i64 r) := hX6.cell (j := 1) rfl
    have w6c2 : w6.cell? ⟨w.heap.size, 2, none⟩ = some (.string k) := hX6.cell (j := 2) rfl
    have w6c3 : w6.cell? ⟨w.heap.size, 3, none⟩ = some (.slice AA an ac) := hX6.cell (j := 3) rfl
    have w6c4 : w6.cell? ⟨w.heap.size, 4, none⟩ = some (.slice none 0 0) := hX6.cell (j := 4) rfl
    have w6c5 : w6.cell? ⟨w.heap.size, 5, none⟩ = some (.slice A4 0 c4) := hX6.cell (j := 5) rfl
    have w6f : ∀ jj, w6.frozen? ⟨w.heap.size, jj, none⟩ = false := fun jj => hX6.frozen
    clear hX5s hX6 hB6 hB7 hB8 hK7 hv6 w5c0 w5c1 w5c2 w5c3 w5c4 w5c5 w5f
    go_wp2_with fail
    go_ret
    rw [HW.out]
    have hBf := HB8.out
    have hv : NdF ((w6.setCell ⟨w.heap.size, 5, none⟩ (.slice (some ⟨w6.heap.size, 0, none⟩) 1 1)).alloc (.cells #[.int .i64 q0, .int .i64 q1, .string q2, .slice q3 q3n q3c, .slice q4 q4n q4c, .slice q5 q5n q5c] 31)) (Sn (w.heap.size + 1) S) [.int .i64 n, .int .i64 r, .string k, .slice AA an ac, .slice none 0 0, .slice (some ⟨w6.heap.size, 0, none⟩) 1 1] (.node n r k at_ [] [leastT (kd k)]) := NdF.node (HA.out.stay (.beneath hBf (fun b _ h => HS.out b h) fun _ _ h => .inl h)) (RdP.nil _ _) HK7.out
    have hv2 : NdF ((w6.setCell ⟨w.heap.size, 5, none⟩ (.slice (some ⟨w6.heap.size, 0, none⟩) 1 1)).alloc (.cells #[.int .i64 q0, .int .i64 q1, .string q2, .slice q3 q3n q3c, .slice q4 q4n q4c, .slice q5 q5n q5c] 31)) (Sn (w.heap.size + 1) S) (#[.int .i64 n, .int .i64 r, .string k, .slice AA an ac, .slice none 0 0, .slice (some ⟨w6.heap.size, 0, none⟩) 1 1] : Array Value).toList (.node n r k at_ [] [leastT (kd k)]) := hv
    refine ⟨_, _, _, rfl, RdF.one (w := ((w6.setCell ⟨w.heap.size, 5, none⟩ (.slice (some ⟨w6.heap.size, 0, none⟩) 1 1)).alloc (.cells #[.int .i64 q0, .int .i64 q1, .string q2, .slice q3 q3n q3c, .slice q4 q4n q4c, .slice q5 q5n q5c] 31))) (S := Sn (w.heap.size + 1) S) (S' := Sn w.heap.size S) #[.int .i64 n, .int .i64 r, .string k, .slice AA an ac, .slice none 0 0, .slice (some ⟨w6.heap.size, 0, none⟩) 1 1] (.node n r k at_ [] [leastT (kd k)]) hv2 (fun b _ h => sn_more b h) _ (by simp [World.setCell]) (.inr (by omega)), hBf.alloc hBf.size _⟩
  · have hL : fitT (kd k) (toldT tx ++ K) ≠ [] := fun e => hz4 (by rw [e] at hn4; exact hn4.symm)
    have HW : Hid (orLeast (kd k) (fitT (kd k) (toldT tx ++ K)) = fitT (kd k) (toldT tx ++ K)) := Lib.hid (if_neg hL)
    have hi : ¬ (n4 : Int) = 0 := by omega
    have g1 : ((n4 : Int) == 0) = false := by simpa using hi
    clear hL hn4 hi
    go_wp2_with fail
    go_ret
    rw [HW.out]
    have hBf := (HB5.out.setCell (p := ⟨w.heap.size, 4, none⟩) (Nat.le_refl _) (.slice none 0 0))
    have hv : NdF (w5.setCell ⟨w.heap.size, 4, none⟩ (.slice none 0 0)) (Sn (w.heap.size + 1) S) [.int .i64 n, .int .i64 r, .string k, .slice AA an ac, .slice none 0 0, .slice A4 n4 c4] (.node n r k at_ [] (fitT (kd k) (toldT tx ++ K))) := NdF.node (HA.out.stay (.beneath hBf (fun b _ h => HS.out b h) fun _ _ h => .inl h)) (RdP.nil _ _) (HR5.out.stay (set_stay _ (sn_ne HS.out) fun _ h => h))
    have hv2 : NdF (w5.setCell ⟨w.heap.size, 4, none⟩ (.slice none 0 0)) (Sn (w.heap.size + 1) S) (#[.int .i64 n, .int .i64 r, .string k, .slice AA an ac, .slice none 0 0, .slice A4 n4 c4] : Array Value).toList (.node n r k at_ [] (fitT (kd k) (toldT tx ++ K))) := hv
    refine ⟨_, _, _, rfl, RdF.one (w := (w5.setCell ⟨w.heap.size, 4, none⟩ (.slice none 0 0))) (S := Sn (w.heap.size + 1) S) (S' := Sn w.heap.size S) #[.int .i64 n, .int .i64 r, .string k, .slice AA an ac, .slice none 0 0, .slice A4 n4 c4] (.node n r k at_ [] (fitT (kd k) (toldT tx ++ K))) hv2 (fun b _ h => sn_more b h) _ (by simp [World.setCell]) (.inr (by have := HX5.out.lt; omega)), hBf.alloc hBf.size _⟩

end Go.Proofs.Ytcdhndhgainadaa
