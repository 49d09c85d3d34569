/-
  The contract of the document's node: the kinds that must have something.
-/
import Derived.Test.YtcdhndhgainadaaHeldAt
import Derived.Test.YtcdhndhgainadaaOpenF
namespace Go.Proofs.Ytcdhndhgainadaa
open Go Go.RowKit
set_option linter.unusedVariables false
set_option linter.unusedSimpArgs false

set_option maxRecDepth 100000 in
set_option maxHeartbeats 2000000 in
theorem node55_quote (N : Nat) (hR : RowC 44 N) (n r : Int) (k : ByteArray) (at_ : List Att) (tx : List Pce) (ks : List RT) (hk : kd k = .quote) (h1 : rsizeL ks < N) (h2 : rsizeL ks ≤ 100000)
    (w : World) (S : Nat → Prop) (AA : Option Addr) (an ac : Nat) (TA : Option Addr) (tn tc : Nat) (A : Option Addr) (m c : Nat) (hS : ∀ b, S b → b < w.heap.size) (ha : RdAF w S AA an ac at_) (hp : RdPF w S TA tn tc tx) (hks : RdF w S A m c ks) :
    Calls Try.prog 55 #[.agg #[.int .i64 n, .int .i64 r, .string k, .slice AA an ac, .slice TA tn tc, .slice A m c]] w (GivesR w S (nodeK n r k at_ tx (rowT ks))) := by
  have hB0 : Below w.heap.size w (w.alloc (.cells #[.int .i64 n, .int .i64 r, .string k, .slice AA an ac, .slice TA tn tc, .slice A m c] 31)) := blAl _
  have hF : ∀ b, w.heap.size + 1 ≤ b → Sn (w.heap.size + 1) S b := fun b h => .inr h
  have hs0 : (w.alloc (.cells #[.int .i64 n, .int .i64 r, .string k, .slice AA an ac, .slice TA tn tc, .slice A m c] 31)).heap.size = w.heap.size + 1 := World.size_alloc _ _
  have HC := Lib.hid (row_open (W := w.alloc (.cells #[.int .i64 n, .int .i64 r, .string k, .slice AA an ac, .slice TA tn tc, .slice A m c] 31)) (F := Sn (w.heap.size + 1) S) hR h1 h2 (fun b h => hF b (by rw [← hs0]; exact h)) (hks.stay (.below hB0 fun _ _ h => .inl h)))
  have hKL : (rowT ks).length ≤ 500000 := Nat.le_trans (rowT_len ks) (by omega)
  have hKG := rowT_good ks
  have X0 := BoxN.made w #[.int .i64 n, .int .i64 r, .string k, .slice AA an ac, .slice TA tn tc, .slice A m c] 31
  have HX0 := Lib.hid X0
  have HS := Lib.hid hS
  have HA := Lib.hid ha
  have HP := Lib.hid hp
  have HB0 := Lib.hid hB0
  have HF := Lib.hid hF
  have HS0 := Lib.hid hs0
  have HKL := Lib.hid hKL
  have HKG := Lib.hid hKG
  generalize rowT ks = K at *
  clear hS ha hp hks hB0 hF hs0 hKL hKG X0 hR h1 h2
  have qpara : (k.toList == [112, 97, 114, 97]) = false := by rw [is_para, hk]; rfl
  have qhead : (k.toList == [104, 101, 97, 100]) = false := by rw [is_head, hk]; rfl
  have qdoc : (k.toList == [100, 111, 99]) = false := by rw [is_doc, hk]; rfl
  have HKN : Hid (Calls Try.prog 33 #[.string k] (w.alloc (.cells #[.int .i64 n, .int .i64 r, .string k, .slice AA an ac, .slice TA tn tc, .slice A m c] 31)) fun e w' => e = .returned (.bool true) ∧ (w.alloc (.cells #[.int .i64 n, .int .i64 r, .string k, .slice AA an ac, .slice TA tn tc, .slice A m c] 31)) = w') := Lib.hid ((known_any k _).mono fun _ _ h => ⟨by rw [h.1, hk]; rfl, h.2.symm⟩)
  have HHO : Hid (∀ W, Calls Try.prog 18 #[.string k] W fun e w' => e = .returned (.bool false) ∧ W = w') := Lib.hid fun W => (rholds_any k W).mono fun _ _ h => ⟨by rw [h.1, hk]; rfl, h.2.symm⟩
  have hw : nodeK n r k at_ tx K = [.node n r k at_ [] (orLeast (kd k) (fitT (kd k) (toldT tx ++ K)))] := by unfold nodeK; rw [hk]
  rw [hw]
  have hpar : Par (kd k) := by rw [hk]; simp [Par]
  have HPAR := Lib.hid hpar
  clear hw hk hpar
  go_enter Try.func55, Try.ntmps55
  go_wp2_with fail
  refine HKN.out.mono ?_
  rintro e w' ⟨rfl, rfl⟩
  clear HKN
  go_wp2_with fail
  refine HC.out.mono ?_
  rintro e w1 ⟨A1, n1, c1, rfl, hr1, hB1⟩
  have hX1 := HX0.out.below hB1 HX0.out.lt
  have HX1 := Lib.hid hX1
  have HB1 := Lib.hid (HB0.out.trans (hB1.mono HB0.out.size))
  have HZ1 : Hid (w.heap.size + 1 ≤ w1.heap.size) := Lib.hid (by have := hB1.size; rw [HS0.out] at this; exact this)
  have HR1 := Lib.hid hr1
  have w1c0 : w1.cell? ⟨w.heap.size, 0, none⟩ = some (.int .i64 n) := hX1.cell (j := 0) rfl
  have w1c1 : w1.cell? ⟨w.heap.size, 1, none⟩ = some (.int .i64 r) := hX1.cell (j := 1) rfl
  have w1c2 : w1.cell? ⟨w.heap.size, 2, none⟩ = some (.string k) := hX1.cell (j := 2) rfl
  have w1c3 : w1.cell? ⟨w.heap.size, 3, none⟩ = some (.slice AA an ac) := hX1.cell (j := 3) rfl
  have w1c4 : w1.cell? ⟨w.heap.size, 4, none⟩ = some (.slice TA tn tc) := hX1.cell (j := 4) rfl
  have w1c5 : w1.cell? ⟨w.heap.size, 5, none⟩ = some (.slice A m c) := hX1.cell (j := 5) rfl
  have w1f : ∀ jj, w1.frozen? ⟨w.heap.size, jj, none⟩ = false := fun jj => hX1.frozen
  clear hX1 hr1 hB1 HC HX0 HB0
  go_wp2_with fail
  refine (HHO.out _).mono ?_
  rintro e w' ⟨rfl, rfl⟩
  go_wp2_with fail
  have hXs : BoxN (w1.setCell ⟨w.heap.size, 5, none⟩ (.slice none 0 0)) w.heap.size #[.int .i64 n, .int .i64 r, .string k, .slice AA an ac, .slice TA tn tc, .slice none 0 0] 31 := HX1.out.setAt 5 (.slice none 0 0)
  have hBs : Below w.heap.size w (w1.setCell ⟨w.heap.size, 5, none⟩ (.slice none 0 0)) := HB1.out.setCell (p := ⟨w.heap.size, 5, none⟩) (Nat.le_refl _) _
  have hRs : RdF (w1.setCell ⟨w.heap.size, 5, none⟩ (.slice none 0 0)) (Sn (w.heap.size + 1) S) A1 n1 c1 K := HR1.out.stay (set_stay _ (sn_ne HS.out) fun _ h => h)
  have hzs : w.heap.size + 1 ≤ (w1.setCell ⟨w.heap.size, 5, none⟩ (.slice none 0 0)).heap.size := by have := HZ1.out; simpa [World.setCell] using this
  have hn1 : n1 ≤ 500000 := by have := HR1.out.length; have := HKL.out; omega
  clear HX1 HB1 HZ1 HR1 w1c0 w1c1 w1c2 w1c3 w1c4 w1c5 w1f
  generalize w1.setCell ⟨w.heap.size, 5, none⟩ (.slice none 0 0) = ws at *
  have HXs := Lib.hid hXs
  have HBs := Lib.hid hBs
  have HRs := Lib.hid hRs
  have HZs := Lib.hid hzs
  clear hXs hBs hRs hzs
  refine wp_region_held (S := (fun w' : World => w'.cell? ⟨w.heap.size, 2, none⟩ = some (.string k) ∧ w'.cell? ⟨w.heap.size, 4, none⟩ = some (.slice TA tn tc))) (by kernel_rfl) ?_
  change wpAnyH _ _ _ _ _ _ _ _ ws.drew
  have HSW : (fun w' : World => w'.cell? ⟨w.heap.size, 2, none⟩ = some (.string k) ∧ w'.cell? ⟨w.heap.size, 4, none⟩ = some (.slice TA tn tc)) ws.drew := ⟨HXs.out.cell (j := 2) rfl, HXs.out.cell (j := 4) rfl⟩
  refine held_take (i := 0) (v := .pointer (some ⟨w.heap.size, 2, none⟩)) rfl (by kernel_rfl) (by kernel_rfl) (by kernel_rfl) (fun _ _ _ h => h) rfl (fun _ hS => by obtain ⟨e1, e2⟩ := hS; go_simp) HSW ?_
  simp only [Act.put, List.setIfInBounds_toArray, List.set_cons_succ, List.set_cons_zero, List.getElem_toArray, List.getElem_cons_succ, List.getElem_cons_zero]
  refine held_take (i := 1) (v := .string k) rfl (by kernel_rfl) (by kernel_rfl) (by kernel_rfl) (fun _ _ _ h => h) rfl (fun _ hS => by obtain ⟨e1, e2⟩ := hS; go_simp) HSW ?_
  simp only [Act.put, List.setIfInBounds_toArray, List.set_cons_succ, List.set_cons_zero, List.getElem_toArray, List.getElem_cons_succ, List.getElem_cons_zero]
  refine held_take (i := 2) (v := .pointer (some ⟨w.heap.size, 4, none⟩)) rfl (by kernel_rfl) (by kernel_rfl) (by kernel_rfl) (fun _ _ _ h => h) rfl (fun _ hS => by obtain ⟨e1, e2⟩ := hS; go_simp) HSW ?_
  simp only [Act.put, List.setIfInBounds_toArray, List.set_cons_succ, List.set_cons_zero, List.getElem_toArray, List.getElem_cons_succ, List.getElem_cons_zero]
  refine held_take (i := 3) (v := .slice TA tn tc) rfl (by kernel_rfl) (by kernel_rfl) (by kernel_rfl) (fun _ _ _ h => h) rfl (fun _ hS => by obtain ⟨e1, e2⟩ := hS; go_simp) HSW ?_
  simp only [Act.put, List.setIfInBounds_toArray, List.set_cons_succ, List.set_cons_zero, List.getElem_toArray, List.getElem_cons_succ, List.getElem_cons_zero]
  refine held_take (i := 4) (v := .slice A1 n1 c1) rfl (by kernel_rfl) (by kernel_rfl) (by kernel_rfl) (fun _ _ _ h => h) rfl (fun _ hS => by obtain ⟨e1, e2⟩ := hS; go_simp) HSW ?_
  simp only [Act.put, List.setIfInBounds_toArray, List.set_cons_succ, List.set_cons_zero, List.getElem_toArray, List.getElem_cons_succ, List.getElem_cons_zero]
  have hdr : Below ws.heap.size ws ws.drew := (Below.refl _ _).drew
  refine held_call (i := 5) (by kernel_rfl) rfl rfl rfl (enters_of Try.func42 (by kernel_rfl) rfl) [.slice TA tn tc, .slice A1 n1 c1] rfl (ahead_open (F := Sn (w.heap.size + 1) S) (by omega) (fun b h => HF.out b (Nat.le_trans HZs.out h)) (HP.out.stay (.beneath (HBs.out.trans (hdr.mono HBs.out.size)) (fun b _ h => HS.out b h) fun _ _ h => .inl h)) (HRs.out.stay (.below hdr fun _ _ h => h))) ?_
  rintro e w3 ⟨A3, n3, c3, rfl, hR3, hB2⟩
  have hB3 : Below ws.heap.size ws w3 := hdr.trans hB2
  have hX3 := HXs.out.below hB3 HXs.out.lt
  have HSW3 : (fun w' : World => w'.cell? ⟨w.heap.size, 2, none⟩ = some (.string k) ∧ w'.cell? ⟨w.heap.size, 4, none⟩ = some (.slice TA tn tc)) w3 := ⟨hX3.cell (j := 2) rfl, hX3.cell (j := 4) rfl⟩
  refine ⟨_, rfl, HSW3, ?_⟩
  simp only [Act.put, List.setIfInBounds_toArray, List.set_cons_succ, List.set_cons_zero, List.getElem_toArray, List.getElem_cons_succ, List.getElem_cons_zero]
  have hZ3 : w.heap.size + 1 ≤ w3.heap.size := Nat.le_trans HZs.out hB3.size
  have hn3 := hR3.length
  have hkl : K.length = n1 := HRs.out.length
  have htl := toldT_len tx
  rw [List.length_append] at hn3
  refine held_call (i := 6) (by kernel_rfl) rfl rfl rfl (enters_of Try.func43 (by kernel_rfl) rfl) [.string k, .slice A3 n3 c3] rfl (fit_open (fitR k HPAR.out) (fun t ht => (List.mem_append.1 ht).elim (toldT_good tx t) (HKG.out t)) (by omega) (fun b h => HF.out b (Nat.le_trans hZ3 h)) hR3) ?_
  rintro e w4 ⟨A4, n4, c4, rfl, hr4, hB4⟩
  have hX4 := hX3.below hB4 hX3.lt
  have HSW4 : (fun w' : World => w'.cell? ⟨w.heap.size, 2, none⟩ = some (.string k) ∧ w'.cell? ⟨w.heap.size, 4, none⟩ = some (.slice TA tn tc)) w4 := ⟨hX4.cell (j := 2) rfl, hX4.cell (j := 4) rfl⟩
  refine ⟨_, rfl, HSW4, ?_⟩
  simp only [Act.put, List.setIfInBounds_toArray, List.set_cons_succ, List.set_cons_zero, List.getElem_toArray, List.getElem_cons_succ, List.getElem_cons_zero]
  refine held_take (i := 7) (v := .pointer (some ⟨w.heap.size, 5, none⟩)) rfl (by kernel_rfl) (by kernel_rfl) (by kernel_rfl) (fun _ _ _ h => h) rfl (fun _ hS => by obtain ⟨e1, e2⟩ := hS; go_simp) HSW4 ?_
  simp only [Act.put, List.setIfInBounds_toArray, List.set_cons_succ, List.set_cons_zero, List.getElem_toArray, List.getElem_cons_succ, List.getElem_cons_zero]
  have k5 : w4.cell? ⟨w.heap.size, 5, none⟩ = some (.slice none 0 0) := hX4.cell (j := 5) rfl
  have f5 : w4.frozen? ⟨w.heap.size, 5, none⟩ = false := hX4.frozen
  have hX5 : BoxN (w4.setCell ⟨w.heap.size, 5, none⟩ (.slice A4 n4 c4)) w.heap.size #[.int .i64 n, .int .i64 r, .string k, .slice AA an ac, .slice TA tn tc, .slice A4 n4 c4] 31 := hX4.setAt 5 (.slice A4 n4 c4)
  have HSW5 : (fun w' : World => w'.cell? ⟨w.heap.size, 2, none⟩ = some (.string k) ∧ w'.cell? ⟨w.heap.size, 4, none⟩ = some (.slice TA tn tc)) (w4.setCell ⟨w.heap.size, 5, none⟩ (.slice A4 n4 c4)) := ⟨hX5.cell (j := 2) rfl, hX5.cell (j := 4) rfl⟩
  have hB5 : Below w.heap.size w (w4.setCell ⟨w.heap.size, 5, none⟩ (.slice A4 n4 c4)) := (HBs.out.trans ((hB3.mono (by have := HZs.out; omega)).trans (hB4.mono (by omega)))).setCell (p := ⟨w.heap.size, 5, none⟩) (Nat.le_refl _) _
  have hR5 : RdF (w4.setCell ⟨w.heap.size, 5, none⟩ (.slice A4 n4 c4)) (Sn (w.heap.size + 1) S) A4 n4 c4 (fitT (kd k) (toldT tx ++ K)) := hr4.stay (set_stay _ (sn_ne HS.out) fun _ h => h)
  have hZ5 : w.heap.size + 1 ≤ (w4.setCell ⟨w.heap.size, 5, none⟩ (.slice A4 n4 c4)).heap.size := by have := hX5.lt; omega
  refine held_one (i := 8) (by kernel_rfl) rfl rfl ?_
  simp only [Act.put, List.setIfInBounds_toArray, List.set_cons_succ, List.set_cons_zero, List.getElem_toArray, List.getElem_cons_succ, List.getElem_cons_zero]
  clear HSW HSW3 HSW4 hX3 hB2 hB3 hB4 hR3 hr4 hX4 hdr hn3 hkl htl
  go_simp
  refine ⟨by kernel_rfl, ?_⟩
  clear HSW5 k5 f5
  generalize w4.setCell ⟨w.heap.size, 5, none⟩ (.slice A4 n4 c4) = w5 at *
  have HX5 := Lib.hid hX5
  have HB5 := Lib.hid hB5
  have HR5 := Lib.hid hR5
  have HZ5 := Lib.hid hZ5
  have w5c0 : w5.cell? ⟨w.heap.size, 0, none⟩ = some (.int .i64 n) := hX5.cell (j := 0) rfl
  have w5c1 : w5.cell? ⟨w.heap.size, 1, none⟩ = some (.int .i64 r) := hX5.cell (j := 1) rfl
  have w5c2 : w5.cell? ⟨w.heap.size, 2, none⟩ = some (.string k) := hX5.cell (j := 2) rfl
  have w5c3 : w5.cell? ⟨w.heap.size, 3, none⟩ = some (.slice AA an ac) := hX5.cell (j := 3) rfl
  have w5c4 : w5.cell? ⟨w.heap.size, 4, none⟩ = some (.slice TA tn tc) := hX5.cell (j := 4) rfl
  have w5c5 : w5.cell? ⟨w.heap.size, 5, none⟩ = some (.slice A4 n4 c4) := hX5.cell (j := 5) rfl
  have w5f : ∀ jj, w5.frozen? ⟨w.heap.size, jj, none⟩ = false := fun jj => hX5.frozen
  have hn4 := hR5.length
  have hn4b : (n4 : Int) ≤ 9223372036854775807 := by obtain ⟨zz, _, hz⟩ := hR5; have := hz.cap; have := hz.max; omega
  clear hX5 hB5 hR5 hZ5 HXs HBs HRs HZs
  by_cases hz4 : n4 = 0
  · subst hz4
    have hL : fitT (kd k) (toldT tx ++ K) = [] := List.eq_nil_of_length_eq_zero hn4
    have HW : Hid (orLeast (kd k) (fitT (kd k) (toldT tx ++ K)) = [leastT (kd k)]) := Lib.hid (by rw [hL]; rfl)
    clear hL hn4
    go_wp2_with fail
    refine (least_open (F := Sn (w.heap.size + 1) S) k (fun b h => HF.out b (Nat.le_trans HZ5.out (by simpa [World.setCell] using h)))).mono ?_
    rintro e w6 ⟨A6, n6, c6, rfl, hr6, hB6⟩
    have hX5s : BoxN (w5.setCell ⟨w.heap.size, 4, none⟩ (.slice none 0 0)) w.heap.size #[.int .i64 n, .int .i64 r, .string k, .slice AA an ac, .slice none 0 0, .slice A4 0 c4] 31 := HX5.out.setAt 4 (.slice none 0 0)
    have hX6 := hX5s.below hB6 hX5s.lt
    have hB7 : Below w.heap.size w w6 := (HB5.out.setCell (p := ⟨w.heap.size, 4, none⟩) (Nat.le_refl _) _).trans (hB6.mono (by have := hX5s.lt; omega))
    have h6lt := hX6.lt
    have HR6 := Lib.hid hr6
    have HB7 := Lib.hid hB7
    have w6c0 : w6.cell? ⟨w.heap.size, 0, none⟩ = some (.int .i64 n) := hX6.cell (j := 0) rfl
    have w6c1 : w6.cell? ⟨w.heap.size, 1, none⟩ = some (.int .i64 r) := hX6.cell (j := 1) rfl
    have w6c2 : w6.cell? ⟨w.heap.size, 2, none⟩ = some (.string k) := hX6.cell (j := 2) rfl
    have w6c3 : w6.cell? ⟨w.heap.size, 3, none⟩ = some (.slice AA an ac) := hX6.cell (j := 3) rfl
    have w6c4 : w6.cell? ⟨w.heap.size, 4, none⟩ = some (.slice none 0 0) := hX6.cell (j := 4) rfl
    have w6c5 : w6.cell? ⟨w.heap.size, 5, none⟩ = some (.slice A4 0 c4) := hX6.cell (j := 5) rfl
    have w6f : ∀ jj, w6.frozen? ⟨w.heap.size, jj, none⟩ = false := fun jj => hX6.frozen
    clear hX5s hX6 hB6 hB7 hr6 w5c0 w5c1 w5c2 w5c3 w5c4 w5c5 w5f
    go_wp2_with fail
    go_ret
    rw [HW.out]
    have hBf := (HB7.out.setCell (p := ⟨w.heap.size, 5, none⟩) (Nat.le_refl _) (.slice A6 n6 c6))
    have hv : NdF (w6.setCell ⟨w.heap.size, 5, none⟩ (.slice A6 n6 c6)) (Sn (w.heap.size + 1) S) [.int .i64 n, .int .i64 r, .string k, .slice AA an ac, .slice none 0 0, .slice A6 n6 c6] (.node n r k at_ [] [leastT (kd k)]) := NdF.node (HA.out.stay (.beneath hBf (fun b _ h => HS.out b h) fun _ _ h => .inl h)) (RdP.nil _ _) (HR6.out.stay (set_stay _ (sn_ne HS.out) fun _ h => h))
    have hv2 : NdF (w6.setCell ⟨w.heap.size, 5, none⟩ (.slice A6 n6 c6)) (Sn (w.heap.size + 1) S) (#[.int .i64 n, .int .i64 r, .string k, .slice AA an ac, .slice none 0 0, .slice A6 n6 c6] : Array Value).toList (.node n r k at_ [] [leastT (kd k)]) := hv
    refine ⟨_, _, _, rfl, RdF.one (w := (w6.setCell ⟨w.heap.size, 5, none⟩ (.slice A6 n6 c6))) (S := Sn (w.heap.size + 1) S) (S' := Sn w.heap.size S) #[.int .i64 n, .int .i64 r, .string k, .slice AA an ac, .slice none 0 0, .slice A6 n6 c6] (.node n r k at_ [] [leastT (kd k)]) hv2 (fun b _ h => sn_more b h) _ (by simp [World.setCell]) (.inr (by omega)), hBf.alloc hBf.size _⟩
  · have hL : fitT (kd k) (toldT tx ++ K) ≠ [] := fun e => hz4 (by rw [e] at hn4; exact hn4.symm)
    have HW : Hid (orLeast (kd k) (fitT (kd k) (toldT tx ++ K)) = fitT (kd k) (toldT tx ++ K)) := Lib.hid (if_neg hL)
    have hi : ¬ (n4 : Int) = 0 := by omega
    have g1 : ((n4 : Int) == 0) = false := by simpa using hi
    clear hL hn4 hi
    go_wp2_with fail
    go_ret
    rw [HW.out]
    have hBf := (HB5.out.setCell (p := ⟨w.heap.size, 4, none⟩) (Nat.le_refl _) (.slice none 0 0))
    have hv : NdF (w5.setCell ⟨w.heap.size, 4, none⟩ (.slice none 0 0)) (Sn (w.heap.size + 1) S) [.int .i64 n, .int .i64 r, .string k, .slice AA an ac, .slice none 0 0, .slice A4 n4 c4] (.node n r k at_ [] (fitT (kd k) (toldT tx ++ K))) := NdF.node (HA.out.stay (.beneath hBf (fun b _ h => HS.out b h) fun _ _ h => .inl h)) (RdP.nil _ _) (HR5.out.stay (set_stay _ (sn_ne HS.out) fun _ h => h))
    have hv2 : NdF (w5.setCell ⟨w.heap.size, 4, none⟩ (.slice none 0 0)) (Sn (w.heap.size + 1) S) (#[.int .i64 n, .int .i64 r, .string k, .slice AA an ac, .slice none 0 0, .slice A4 n4 c4] : Array Value).toList (.node n r k at_ [] (fitT (kd k) (toldT tx ++ K))) := hv
    refine ⟨_, _, _, rfl, RdF.one (w := (w5.setCell ⟨w.heap.size, 4, none⟩ (.slice none 0 0))) (S := Sn (w.heap.size + 1) S) (S' := Sn w.heap.size S) #[.int .i64 n, .int .i64 r, .string k, .slice AA an ac, .slice none 0 0, .slice A4 n4 c4] (.node n r k at_ [] (fitT (kd k) (toldT tx ++ K))) hv2 (fun b _ h => sn_more b h) _ (by simp [World.setCell]) (.inr (by have := HX5.out.lt; omega)), hBf.alloc hBf.size _⟩

set_option maxRecDepth 100000 in
set_option maxHeartbeats 2000000 in
theorem node55_list (N : Nat) (hR : RowC 44 N) (n r : Int) (k : ByteArray) (at_ : List Att) (tx : List Pce) (ks : List RT) (hk : kd k = .list) (h1 : rsizeL ks < N) (h2 : rsizeL ks ≤ 100000)
    (w : World) (S : Nat → Prop) (AA : Option Addr) (an ac : Nat) (TA : Option Addr) (tn tc : Nat) (A : Option Addr) (m c : Nat) (hS : ∀ b, S b → b < w.heap.size) (ha : RdAF w S AA an ac at_) (hp : RdPF w S TA tn tc tx) (hks : RdF w S A m c ks) :
    Calls Try.prog 55 #[.agg #[.int .i64 n, .int .i64 r, .string k, .slice AA an ac, .slice TA tn tc, .slice A m c]] w (GivesR w S (nodeK n r k at_ tx (rowT ks))) := by
  have hB0 : Below w.heap.size w (w.alloc (.cells #[.int .i64 n, .int .i64 r, .string k, .slice AA an ac, .slice TA tn tc, .slice A m c] 31)) := blAl _
  have hF : ∀ b, w.heap.size + 1 ≤ b → Sn (w.heap.size + 1) S b := fun b h => .inr h
  have hs0 : (w.alloc (.cells #[.int .i64 n, .int .i64 r, .string k, .slice AA an ac, .slice TA tn tc, .slice A m c] 31)).heap.size = w.heap.size + 1 := World.size_alloc _ _
  have HC := Lib.hid (row_open (W := w.alloc (.cells #[.int .i64 n, .int .i64 r, .string k, .slice AA an ac, .slice TA tn tc, .slice A m c] 31)) (F := Sn (w.heap.size + 1) S) hR h1 h2 (fun b h => hF b (by rw [← hs0]; exact h)) (hks.stay (.below hB0 fun _ _ h => .inl h)))
  have hKL : (rowT ks).length ≤ 500000 := Nat.le_trans (rowT_len ks) (by omega)
  have hKG := rowT_good ks
  have X0 := BoxN.made w #[.int .i64 n, .int .i64 r, .string k, .slice AA an ac, .slice TA tn tc, .slice A m c] 31
  have HX0 := Lib.hid X0
  have HS := Lib.hid hS
  have HA := Lib.hid ha
  have HP := Lib.hid hp
  have HB0 := Lib.hid hB0
  have HF := Lib.hid hF
  have HS0 := Lib.hid hs0
  have HKL := Lib.hid hKL
  have HKG := Lib.hid hKG
  generalize rowT ks = K at *
  clear hS ha hp hks hB0 hF hs0 hKL hKG X0 hR h1 h2
  have qpara : (k.toList == [112, 97, 114, 97]) = false := by rw [is_para, hk]; rfl
  have qhead : (k.toList == [104, 101, 97, 100]) = false := by rw [is_head, hk]; rfl
  have qdoc : (k.toList == [100, 111, 99]) = false := by rw [is_doc, hk]; rfl
  have HKN : Hid (Calls Try.prog 33 #[.string k] (w.alloc (.cells #[.int .i64 n, .int .i64 r, .string k, .slice AA an ac, .slice TA tn tc, .slice A m c] 31)) fun e w' => e = .returned (.bool true) ∧ (w.alloc (.cells #[.int .i64 n, .int .i64 r, .string k, .slice AA an ac, .slice TA tn tc, .slice A m c] 31)) = w') := Lib.hid ((known_any k _).mono fun _ _ h => ⟨by rw [h.1, hk]; rfl, h.2.symm⟩)
  have HHO : Hid (∀ W, Calls Try.prog 18 #[.string k] W fun e w' => e = .returned (.bool false) ∧ W = w') := Lib.hid fun W => (rholds_any k W).mono fun _ _ h => ⟨by rw [h.1, hk]; rfl, h.2.symm⟩
  have hw : nodeK n r k at_ tx K = [.node n r k at_ [] (orLeast (kd k) (fitT (kd k) (toldT tx ++ K)))] := by unfold nodeK; rw [hk]
  rw [hw]
  have hpar : Par (kd k) := by rw [hk]; simp [Par]
  have HPAR := Lib.hid hpar
  clear hw hk hpar
  go_enter Try.func55, Try.ntmps55
  go_wp2_with fail
  refine HKN.out.mono ?_
  rintro e w' ⟨rfl, rfl⟩
  clear HKN
  go_wp2_with fail
  refine HC.out.mono ?_
  rintro e w1 ⟨A1, n1, c1, rfl, hr1, hB1⟩
  have hX1 := HX0.out.below hB1 HX0.out.lt
  have HX1 := Lib.hid hX1
  have HB1 := Lib.hid (HB0.out.trans (hB1.mono HB0.out.size))
  have HZ1 : Hid (w.heap.size + 1 ≤ w1.heap.size) := Lib.hid (by have := hB1.size; rw [HS0.out] at this; exact this)
  have HR1 := Lib.hid hr1
  have w1c0 : w1.cell? ⟨w.heap.size, 0, none⟩ = some (.int .i64 n) := hX1.cell (j := 0) rfl
  have w1c1 : w1.cell? ⟨w.heap.size, 1, none⟩ = some (.int .i64 r) := hX1.cell (j := 1) rfl
  have w1c2 : w1.cell? ⟨w.heap.size, 2, none⟩ = some (.string k) := hX1.cell (j := 2) rfl
  have w1c3 : w1.cell? ⟨w.heap.size, 3, none⟩ = some (.slice AA an ac) := hX1.cell (j := 3) rfl
  have w1c4 : w1.cell? ⟨w.heap.size, 4, none⟩ = some (.slice TA tn tc) := hX1.cell (j := 4) rfl
  have w1c5 : w1.cell? ⟨w.heap.size, 5, none⟩ = some (.slice A m c) := hX1.cell (j := 5) rfl
  have w1f : ∀ jj, w1.frozen? ⟨w.heap.size, jj, none⟩ = false := fun jj => hX1.frozen
  clear hX1 hr1 hB1 HC HX0 HB0
  go_wp2_with fail
  refine (HHO.out _).mono ?_
  rintro e w' ⟨rfl, rfl⟩
  go_wp2_with fail
  have hXs : BoxN (w1.setCell ⟨w.heap.size, 5, none⟩ (.slice none 0 0)) w.heap.size #[.int .i64 n, .int .i64 r, .string k, .slice AA an ac, .slice TA tn tc, .slice none 0 0] 31 := HX1.out.setAt 5 (.slice none 0 0)
  have hBs : Below w.heap.size w (w1.setCell ⟨w.heap.size, 5, none⟩ (.slice none 0 0)) := HB1.out.setCell (p := ⟨w.heap.size, 5, none⟩) (Nat.le_refl _) _
  have hRs : RdF (w1.setCell ⟨w.heap.size, 5, none⟩ (.slice none 0 0)) (Sn (w.heap.size + 1) S) A1 n1 c1 K := HR1.out.stay (set_stay _ (sn_ne HS.out) fun _ h => h)
  have hzs : w.heap.size + 1 ≤ (w1.setCell ⟨w.heap.size, 5, none⟩ (.slice none 0 0)).heap.size := by have := HZ1.out; simpa [World.setCell] using this
  have hn1 : n1 ≤ 500000 := by have := HR1.out.length; have := HKL.out; omega
  clear HX1 HB1 HZ1 HR1 w1c0 w1c1 w1c2 w1c3 w1c4 w1c5 w1f
  generalize w1.setCell ⟨w.heap.size, 5, none⟩ (.slice none 0 0) = ws at *
  have HXs := Lib.hid hXs
  have HBs := Lib.hid hBs
  have HRs := Lib.hid hRs
  have HZs := Lib.hid hzs
  clear hXs hBs hRs hzs
  refine wp_region_held (S := (fun w' : World => w'.cell? ⟨w.heap.size, 2, none⟩ = some (.string k) ∧ w'.cell? ⟨w.heap.size, 4, none⟩ = some (.slice TA tn tc))) (by kernel_rfl) ?_
  change wpAnyH _ _ _ _ _ _ _ _ ws.drew
  have HSW : (fun w' : World => w'.cell? ⟨w.heap.size, 2, none⟩ = some (.string k) ∧ w'.cell? ⟨w.heap.size, 4, none⟩ = some (.slice TA tn tc)) ws.drew := ⟨HXs.out.cell (j := 2) rfl, HXs.out.cell (j := 4) rfl⟩
  refine held_take (i := 0) (v := .pointer (some ⟨w.heap.size, 2, none⟩)) rfl (by kernel_rfl) (by kernel_rfl) (by kernel_rfl) (fun _ _ _ h => h) rfl (fun _ hS => by obtain ⟨e1, e2⟩ := hS; go_simp) HSW ?_
  simp only [Act.put, List.setIfInBounds_toArray, List.set_cons_succ, List.set_cons_zero, List.getElem_toArray, List.getElem_cons_succ, List.getElem_cons_zero]
  refine held_take (i := 1) (v := .string k) rfl (by kernel_rfl) (by kernel_rfl) (by kernel_rfl) (fun _ _ _ h => h) rfl (fun _ hS => by obtain ⟨e1, e2⟩ := hS; go_simp) HSW ?_
  simp only [Act.put, List.setIfInBounds_toArray, List.set_cons_succ, List.set_cons_zero, List.getElem_toArray, List.getElem_cons_succ, List.getElem_cons_zero]
  refine held_take (i := 2) (v := .pointer (some ⟨w.heap.size, 4, none⟩)) rfl (by kernel_rfl) (by kernel_rfl) (by kernel_rfl) (fun _ _ _ h => h) rfl (fun _ hS => by obtain ⟨e1, e2⟩ := hS; go_simp) HSW ?_
  simp only [Act.put, List.setIfInBounds_toArray, List.set_cons_succ, List.set_cons_zero, List.getElem_toArray, List.getElem_cons_succ, List.getElem_cons_zero]
  refine held_take (i := 3) (v := .slice TA tn tc) rfl (by kernel_rfl) (by kernel_rfl) (by kernel_rfl) (fun _ _ _ h => h) rfl (fun _ hS => by obtain ⟨e1, e2⟩ := hS; go_simp) HSW ?_
  simp only [Act.put, List.setIfInBounds_toArray, List.set_cons_succ, List.set_cons_zero, List.getElem_toArray, List.getElem_cons_succ, List.getElem_cons_zero]
  refine held_take (i := 4) (v := .slice A1 n1 c1) rfl (by kernel_rfl) (by kernel_rfl) (by kernel_rfl) (fun _ _ _ h => h) rfl (fun _ hS => by obtain ⟨e1, e2⟩ := hS; go_simp) HSW ?_
  simp only [Act.put, List.setIfInBounds_toArray, List.set_cons_succ, List.set_cons_zero, List.getElem_toArray, List.getElem_cons_succ, List.getElem_cons_zero]
  have hdr : Below ws.heap.size ws ws.drew := (Below.refl _ _).drew
  refine held_call (i := 5) (by kernel_rfl) rfl rfl rfl (enters_of Try.func42 (by kernel_rfl) rfl) [.slice TA tn tc, .slice A1 n1 c1] rfl (ahead_open (F := Sn (w.heap.size + 1) S) (by omega) (fun b h => HF.out b (Nat.le_trans HZs.out h)) (HP.out.stay (.beneath (HBs.out.trans (hdr.mono HBs.out.size)) (fun b _ h => HS.out b h) fun _ _ h => .inl h)) (HRs.out.stay (.below hdr fun _ _ h => h))) ?_
  rintro e w3 ⟨A3, n3, c3, rfl, hR3, hB2⟩
  have hB3 : Below ws.heap.size ws w3 := hdr.trans hB2
  have hX3 := HXs.out.below hB3 HXs.out.lt
  have HSW3 : (fun w' : World => w'.cell? ⟨w.heap.size, 2, none⟩ = some (.string k) ∧ w'.cell? ⟨w.heap.size, 4, none⟩ = some (.slice TA tn tc)) w3 := ⟨hX3.cell (j := 2) rfl, hX3.cell (j := 4) rfl⟩
  refine ⟨_, rfl, HSW3, ?_⟩
  simp only [Act.put, List.setIfInBounds_toArray, List.set_cons_succ, List.set_cons_zero, List.getElem_toArray, List.getElem_cons_succ, List.getElem_cons_zero]
  have hZ3 : w.heap.size + 1 ≤ w3.heap.size := Nat.le_trans HZs.out hB3.size
  have hn3 := hR3.length
  have hkl : K.length = n1 := HRs.out.length
  have htl := toldT_len tx
  rw [List.length_append] at hn3
  refine held_call (i := 6) (by kernel_rfl) rfl rfl rfl (enters_of Try.func43 (by kernel_rfl) rfl) [.string k, .slice A3 n3 c3] rfl (fit_open (fitR k HPAR.out) (fun t ht => (List.mem_append.1 ht).elim (toldT_good tx t) (HKG.out t)) (by omega) (fun b h => HF.out b (Nat.le_trans hZ3 h)) hR3) ?_
  rintro e w4 ⟨A4, n4, c4, rfl, hr4, hB4⟩
  have hX4 := hX3.below hB4 hX3.lt
  have HSW4 : (fun w' : World => w'.cell? ⟨w.heap.size, 2, none⟩ = some (.string k) ∧ w'.cell? ⟨w.heap.size, 4, none⟩ = some (.slice TA tn tc)) w4 := ⟨hX4.cell (j := 2) rfl, hX4.cell (j := 4) rfl⟩
  refine ⟨_, rfl, HSW4, ?_⟩
  simp only [Act.put, List.setIfInBounds_toArray, List.set_cons_succ, List.set_cons_zero, List.getElem_toArray, List.getElem_cons_succ, List.getElem_cons_zero]
  refine held_take (i := 7) (v := .pointer (some ⟨w.heap.size, 5, none⟩)) rfl (by kernel_rfl) (by kernel_rfl) (by kernel_rfl) (fun _ _ _ h => h) rfl (fun _ hS => by obtain ⟨e1, e2⟩ := hS; go_simp) HSW4 ?_
  simp only [Act.put, List.setIfInBounds_toArray, List.set_cons_succ, List.set_cons_zero, List.getElem_toArray, List.getElem_cons_succ, List.getElem_cons_zero]
  have k5 : w4.cell? ⟨w.heap.size, 5, none⟩ = some (.slice none 0 0) := hX4.cell (j := 5) rfl
  have f5 : w4.frozen? ⟨w.heap.size, 5, none⟩ = false := hX4.frozen
  have hX5 : BoxN (w4.setCell ⟨w.heap.size, 5, none⟩ (.slice A4 n4 c4)) w.heap.size #[.int .i64 n, .int .i64 r, .string k, .slice AA an ac, .slice TA tn tc, .slice A4 n4 c4] 31 := hX4.setAt 5 (.slice A4 n4 c4)
  have HSW5 : (fun w' : World => w'.cell? ⟨w.heap.size, 2, none⟩ = some (.string k) ∧ w'.cell? ⟨w.heap.size, 4, none⟩ = some (.slice TA tn tc)) (w4.setCell ⟨w.heap.size, 5, none⟩ (.slice A4 n4 c4)) := ⟨hX5.cell (j := 2) rfl, hX5.cell (j := 4) rfl⟩
  have hB5 : Below w.heap.size w (w4.setCell ⟨w.heap.size, 5, none⟩ (.slice A4 n4 c4)) := (HBs.out.trans ((hB3.mono (by have := HZs.out; omega)).trans (hB4.mono (by omega)))).setCell (p := ⟨w.heap.size, 5, none⟩) (Nat.le_refl _) _
  have hR5 : RdF (w4.setCell ⟨w.heap.size, 5, none⟩ (.slice A4 n4 c4)) (Sn (w.heap.size + 1) S) A4 n4 c4 (fitT (kd k) (toldT tx ++ K)) := hr4.stay (set_stay _ (sn_ne HS.out) fun _ h => h)
  have hZ5 : w.heap.size + 1 ≤ (w4.setCell ⟨w.heap.size, 5, none⟩ (.slice A4 n4 c4)).heap.size := by have := hX5.lt; omega
  refine held_one (i := 8) (by kernel_rfl) rfl rfl ?_
  simp only [Act.put, List.setIfInBounds_toArray, List.set_cons_succ, List.set_cons_zero, List.getElem_toArray, List.getElem_cons_succ, List.getElem_cons_zero]
  clear HSW HSW3 HSW4 hX3 hB2 hB3 hB4 hR3 hr4 hX4 hdr hn3 hkl htl
  go_simp
  refine ⟨by kernel_rfl, ?_⟩
  clear HSW5 k5 f5
  generalize w4.setCell ⟨w.heap.size, 5, none⟩ (.slice A4 n4 c4) = w5 at *
  have HX5 := Lib.hid hX5
  have HB5 := Lib.hid hB5
  have HR5 := Lib.hid hR5
  have HZ5 := Lib.hid hZ5
  have w5c0 : w5.cell? ⟨w.heap.size, 0, none⟩ = some (.int .i64 n) := hX5.cell (j := 0) rfl
  have w5c1 : w5.cell? ⟨w.heap.size, 1, none⟩ = some (.int .i64 r) := hX5.cell (j := 1) rfl
  have w5c2 : w5.cell? ⟨w.heap.size, 2, none⟩ = some (.string k) := hX5.cell (j := 2) rfl
  have w5c3 : w5.cell? ⟨w.heap.size, 3, none⟩ = some (.slice AA an ac) := hX5.cell (j := 3) rfl
  have w5c4 : w5.cell? ⟨w.heap.size, 4, none⟩ = some (.slice TA tn tc) := hX5.cell (j := 4) rfl
  have w5c5 : w5.cell? ⟨w.heap.size, 5, none⟩ = some (.slice A4 n4 c4) := hX5.cell (j := 5) rfl
  have w5f : ∀ jj, w5.frozen? ⟨w.heap.size, jj, none⟩ = false := fun jj => hX5.frozen
  have hn4 := hR5.length
  have hn4b : (n4 : Int) ≤ 9223372036854775807 := by obtain ⟨zz, _, hz⟩ := hR5; have := hz.cap; have := hz.max; omega
  clear hX5 hB5 hR5 hZ5 HXs HBs HRs HZs
  by_cases hz4 : n4 = 0
  · subst hz4
    have hL : fitT (kd k) (toldT tx ++ K) = [] := List.eq_nil_of_length_eq_zero hn4
    have HW : Hid (orLeast (kd k) (fitT (kd k) (toldT tx ++ K)) = [leastT (kd k)]) := Lib.hid (by rw [hL]; rfl)
    clear hL hn4
    go_wp2_with fail
    refine (least_open (F := Sn (w.heap.size + 1) S) k (fun b h => HF.out b (Nat.le_trans HZ5.out (by simpa [World.setCell] using h)))).mono ?_
    rintro e w6 ⟨A6, n6, c6, rfl, hr6, hB6⟩
    have hX5s : BoxN (w5.setCell ⟨w.heap.size, 4, none⟩ (.slice none 0 0)) w.heap.size #[.int .i64 n, .int .i64 r, .string k, .slice AA an ac, .slice none 0 0, .slice A4 0 c4] 31 := HX5.out.setAt 4 (.slice none 0 0)
    have hX6 := hX5s.below hB6 hX5s.lt
    have hB7 : Below w.heap.size w w6 := (HB5.out.setCell (p := ⟨w.heap.size, 4, none⟩) (Nat.le_refl _) _).trans (hB6.mono (by have := hX5s.lt; omega))
    have h6lt := hX6.lt
    have HR6 := Lib.hid hr6
    have HB7 := Lib.hid hB7
    have w6c0 : w6.cell? ⟨w.heap.size, 0, none⟩ = some (.int .i64 n) := hX6.cell (j := 0) rfl
    have w6c1 : w6.cell? ⟨w.heap.size, 1, none⟩ = some (.int .i64 r) := hX6.cell (j := 1) rfl
    have w6c2 : w6.cell? ⟨w.heap.size, 2, none⟩ = some (.string k) := hX6.cell (j := 2) rfl
    have w6c3 : w6.cell? ⟨w.heap.size, 3, none⟩ = some (.slice AA an ac) := hX6.cell (j := 3) rfl
    have w6c4 : w6.cell? ⟨w.heap.size, 4, none⟩ = some (.slice none 0 0) := hX6.cell (j := 4) rfl
    have w6c5 : w6.cell? ⟨w.heap.size, 5, none⟩ = some (.slice A4 0 c4) := hX6.cell (j := 5) rfl
    have w6f : ∀ jj, w6.frozen? ⟨w.heap.size, jj, none⟩ = false := fun jj => hX6.frozen
    clear hX5s hX6 hB6 hB7 hr6 w5c0 w5c1 w5c2 w5c3 w5c4 w5c5 w5f
    go_wp2_with fail
    go_ret
    rw [HW.out]
    have hBf := (HB7.out.setCell (p := ⟨w.heap.size, 5, none⟩) (Nat.le_refl _) (.slice A6 n6 c6))
    have hv : NdF (w6.setCell ⟨w.heap.size, 5, none⟩ (.slice A6 n6 c6)) (Sn (w.heap.size + 1) S) [.int .i64 n, .int .i64 r, .string k, .slice AA an ac, .slice none 0 0, .slice A6 n6 c6] (.node n r k at_ [] [leastT (kd k)]) := NdF.node (HA.out.stay (.beneath hBf (fun b _ h => HS.out b h) fun _ _ h => .inl h)) (RdP.nil _ _) (HR6.out.stay (set_stay _ (sn_ne HS.out) fun _ h => h))
    have hv2 : NdF (w6.setCell ⟨w.heap.size, 5, none⟩ (.slice A6 n6 c6)) (Sn (w.heap.size + 1) S) (#[.int .i64 n, .int .i64 r, .string k, .slice AA an ac, .slice none 0 0, .slice A6 n6 c6] : Array Value).toList (.node n r k at_ [] [leastT (kd k)]) := hv
    refine ⟨_, _, _, rfl, RdF.one (w := (w6.setCell ⟨w.heap.size, 5, none⟩ (.slice A6 n6 c6))) (S := Sn (w.heap.size + 1) S) (S' := Sn w.heap.size S) #[.int .i64 n, .int .i64 r, .string k, .slice AA an ac, .slice none 0 0, .slice A6 n6 c6] (.node n r k at_ [] [leastT (kd k)]) hv2 (fun b _ h => sn_more b h) _ (by simp [World.setCell]) (.inr (by omega)), hBf.alloc hBf.size _⟩
  · have hL : fitT (kd k) (toldT tx ++ K) ≠ [] := fun e => hz4 (by rw [e] at hn4; exact hn4.symm)
    have HW : Hid (orLeast (kd k) (fitT (kd k) (toldT tx ++ K)) = fitT (kd k) (toldT tx ++ K)) := Lib.hid (if_neg hL)
    have hi : ¬ (n4 : Int) = 0 := by omega
    have g1 : ((n4 : Int) == 0) = false := by simpa using hi
    clear hL hn4 hi
    go_wp2_with fail
    go_ret
    rw [HW.out]
    have hBf := (HB5.out.setCell (p := ⟨w.heap.size, 4, none⟩) (Nat.le_refl _) (.slice none 0 0))
    have hv : NdF (w5.setCell ⟨w.heap.size, 4, none⟩ (.slice none 0 0)) (Sn (w.heap.size + 1) S) [.int .i64 n, .int .i64 r, .string k, .slice AA an ac, .slice none 0 0, .slice A4 n4 c4] (.node n r k at_ [] (fitT (kd k) (toldT tx ++ K))) := NdF.node (HA.out.stay (.beneath hBf (fun b _ h => HS.out b h) fun _ _ h => .inl h)) (RdP.nil _ _) (HR5.out.stay (set_stay _ (sn_ne HS.out) fun _ h => h))
    have hv2 : NdF (w5.setCell ⟨w.heap.size, 4, none⟩ (.slice none 0 0)) (Sn (w.heap.size + 1) S) (#[.int .i64 n, .int .i64 r, .string k, .slice AA an ac, .slice none 0 0, .slice A4 n4 c4] : Array Value).toList (.node n r k at_ [] (fitT (kd k) (toldT tx ++ K))) := hv
    refine ⟨_, _, _, rfl, RdF.one (w := (w5.setCell ⟨w.heap.size, 4, none⟩ (.slice none 0 0))) (S := Sn (w.heap.size + 1) S) (S' := Sn w.heap.size S) #[.int .i64 n, .int .i64 r, .string k, .slice AA an ac, .slice none 0 0, .slice A4 n4 c4] (.node n r k at_ [] (fitT (kd k) (toldT tx ++ K))) hv2 (fun b _ h => sn_more b h) _ (by simp [World.setCell]) (.inr (by have := HX5.out.lt; omega)), hBf.alloc hBf.size _⟩

set_option maxRecDepth 100000 in
set_option maxHeartbeats 2000000 in
theorem node55_table (N : Nat) (hR : RowC 44 N) (n r : Int) (k : ByteArray) (at_ : List Att) (tx : List Pce) (ks : List RT) (hk : kd k = .table) (h1 : rsizeL ks < N) (h2 : rsizeL ks ≤ 100000)
    (w : World) (S : Nat → Prop) (AA : Option Addr) (an ac : Nat) (TA : Option Addr) (tn tc : Nat) (A : Option Addr) (m c : Nat) (hS : ∀ b, S b → b < w.heap.size) (ha : RdAF w S AA an ac at_) (hp : RdPF w S TA tn tc tx) (hks : RdF w S A m c ks) :
    Calls Try.prog 55 #[.agg #[.int .i64 n, .int .i64 r, .string k, .slice AA an ac, .slice TA tn tc, .slice A m c]] w (GivesR w S (nodeK n r k at_ tx (rowT ks))) := by
  have hB0 : Below w.heap.size w (w.alloc (.cells #[.int .i64 n, .int .i64 r, .string k, .slice AA an ac, .slice TA tn tc, .slice A m c] 31)) := blAl _
  have hF : ∀ b, w.heap.size + 1 ≤ b → Sn (w.heap.size + 1) S b := fun b h => .inr h
  have hs0 : (w.alloc (.cells #[.int .i64 n, .int .i64 r, .string k, .slice AA an ac, .slice TA tn tc, .slice A m c] 31)).heap.size = w.heap.size + 1 := World.size_alloc _ _
  have HC := Lib.hid (row_open (W := w.alloc (.cells #[.int .i64 n, .int .i64 r, .string k, .slice AA an ac, .slice TA tn tc, .slice A m c] 31)) (F := Sn (w.heap.size + 1) S) hR h1 h2 (fun b h => hF b (by rw [← hs0]; exact h)) (hks.stay (.below hB0 fun _ _ h => .inl h)))
  have hKL : (rowT ks).length ≤ 500000 := Nat.le_trans (rowT_len ks) (by omega)
  have hKG := rowT_good ks
  have X0 := BoxN.made w #[.int .i64 n, .int .i64 r, .string k, .slice AA an ac, .slice TA tn tc, .slice A m c] 31
  have HX0 := Lib.hid X0
  have HS := Lib.hid hS
  have HA := Lib.hid ha
  have HP := Lib.hid hp
  have HB0 := Lib.hid hB0
  have HF := Lib.hid hF
  have HS0 := Lib.hid hs0
  have HKL := Lib.hid hKL
  have HKG := Lib.hid hKG
  generalize rowT ks = K at *
  clear hS ha hp hks hB0 hF hs0 hKL hKG X0 hR h1 h2
  have qpara : (k.toList == [112, 97, 114, 97]) = false := by rw [is_para, hk]; rfl
  have qhead : (k.toList == [104, 101, 97, 100]) = false := by rw [is_head, hk]; rfl
  have qdoc : (k.toList == [100, 111, 99]) = false := by rw [is_doc, hk]; rfl
  have HKN : Hid (Calls Try.prog 33 #[.string k] (w.alloc (.cells #[.int .i64 n, .int .i64 r, .string k, .slice AA an ac, .slice TA tn tc, .slice A m c] 31)) fun e w' => e = .returned (.bool true) ∧ (w.alloc (.cells #[.int .i64 n, .int .i64 r, .string k, .slice AA an ac, .slice TA tn tc, .slice A m c] 31)) = w') := Lib.hid ((known_any k _).mono fun _ _ h => ⟨by rw [h.1, hk]; rfl, h.2.symm⟩)
  have HHO : Hid (∀ W, Calls Try.prog 18 #[.string k] W fun e w' => e = .returned (.bool false) ∧ W = w') := Lib.hid fun W => (rholds_any k W).mono fun _ _ h => ⟨by rw [h.1, hk]; rfl, h.2.symm⟩
  have hw : nodeK n r k at_ tx K = [.node n r k at_ [] (orLeast (kd k) (fitT (kd k) (toldT tx ++ K)))] := by unfold nodeK; rw [hk]
  rw [hw]
  have hpar : Par (kd k) := by rw [hk]; simp [Par]
  have HPAR := Lib.hid hpar
  clear hw hk hpar
  go_enter Try.func55, Try.ntmps55
  go_wp2_with fail
  refine HKN.out.mono ?_
  rintro e w' ⟨rfl, rfl⟩
  clear HKN
  go_wp2_with fail
  refine HC.out.mono ?_
  rintro e w1 ⟨A1, n1, c1, rfl, hr1, hB1⟩
  have hX1 := HX0.out.below hB1 HX0.out.lt
  have HX1 := Lib.hid hX1
  have HB1 := Lib.hid (HB0.out.trans (hB1.mono HB0.out.size))
  have HZ1 : Hid (w.heap.size + 1 ≤ w1.heap.size) := Lib.hid (by have := hB1.size; rw [HS0.out] at this; exact this)
  have HR1 := Lib.hid hr1
  have w1c0 : w1.cell? ⟨w.heap.size, 0, none⟩ = some (.int .i64 n) := hX1.cell (j := 0) rfl
  have w1c1 : w1.cell? ⟨w.heap.size, 1, none⟩ = some (.int .i64 r) := hX1.cell (j := 1) rfl
  have w1c2 : w1.cell? ⟨w.heap.size, 2, none⟩ = some (.string k) := hX1.cell (j := 2) rfl
  have w1c3 : w1.cell? ⟨w.heap.size, 3, none⟩ = some (.slice AA an ac) := hX1.cell (j := 3) rfl
  have w1c4 : w1.cell? ⟨w.heap.size, 4, none⟩ = some (.slice TA tn tc) := hX1.cell (j := 4) rfl
  have w1c5 : w1.cell? ⟨w.heap.size, 5, none⟩ = some (.slice A m c) := hX1.cell (j := 5) rfl
  have w1f : ∀ jj, w1.frozen? ⟨w.heap.size, jj, none⟩ = false := fun jj => hX1.frozen
  clear hX1 hr1 hB1 HC HX0 HB0
  go_wp2_with fail
  refine (HHO.out _).mono ?_
  rintro e w' ⟨rfl, rfl⟩
  go_wp2_with fail
  have hXs : BoxN (w1.setCell ⟨w.heap.size, 5, none⟩ (.slice none 0 0)) w.heap.size #[.int .i64 n, .int .i64 r, .string k, .slice AA an ac, .slice TA tn tc, .slice none 0 0] 31 := HX1.out.setAt 5 (.slice none 0 0)
  have hBs : Below w.heap.size w (w1.setCell ⟨w.heap.size, 5, none⟩ (.slice none 0 0)) := HB1.out.setCell (p := ⟨w.heap.size, 5, none⟩) (Nat.le_refl _) _
  have hRs : RdF (w1.setCell ⟨w.heap.size, 5, none⟩ (.slice none 0 0)) (Sn (w.heap.size + 1) S) A1 n1 c1 K := HR1.out.stay (set_stay _ (sn_ne HS.out) fun _ h => h)
  have hzs : w.heap.size + 1 ≤ (w1.setCell ⟨w.heap.size, 5, none⟩ (.slice none 0 0)).heap.size := by have := HZ1.out; simpa [World.setCell] using this
  have hn1 : n1 ≤ 500000 := by have := HR1.out.length; have := HKL.out; omega
  clear HX1 HB1 HZ1 HR1 w1c0 w1c1 w1c2 w1c3 w1c4 w1c5 w1f
  generalize w1.setCell ⟨w.heap.size, 5, none⟩ (.slice none 0 0) = ws at *
  have HXs := Lib.hid hXs
  have HBs := Lib.hid hBs
  have HRs := Lib.hid hRs
  have HZs := Lib.hid hzs
  clear hXs hBs hRs hzs
  refine wp_region_held (S := (fun w' : World => w'.cell? ⟨w.heap.size, 2, none⟩ = some (.string k) ∧ w'.cell? ⟨w.heap.size, 4, none⟩ = some (.slice TA tn tc))) (by kernel_rfl) ?_
  change wpAnyH _ _ _ _ _ _ _ _ ws.drew
  have HSW : (fun w' : World => w'.cell? ⟨w.heap.size, 2, none⟩ = some (.string k) ∧ w'.cell? ⟨w.heap.size, 4, none⟩ = some (.slice TA tn tc)) ws.drew := ⟨HXs.out.cell (j := 2) rfl, HXs.out.cell (j := 4) rfl⟩
  refine held_take (i := 0) (v := .pointer (some ⟨w.heap.size, 2, none⟩)) rfl (by kernel_rfl) (by kernel_rfl) (by kernel_rfl) (fun _ _ _ h => h) rfl (fun _ hS => by obtain ⟨e1, e2⟩ := hS; go_simp) HSW ?_
  simp only [Act.put, List.setIfInBounds_toArray, List.set_cons_succ, List.set_cons_zero, List.getElem_toArray, List.getElem_cons_succ, List.getElem_cons_zero]
  refine held_take (i := 1) (v := .string k) rfl (by kernel_rfl) (by kernel_rfl) (by kernel_rfl) (fun _ _ _ h => h) rfl (fun _ hS => by obtain ⟨e1, e2⟩ := hS; go_simp) HSW ?_
  simp only [Act.put, List.setIfInBounds_toArray, List.set_cons_succ, List.set_cons_zero, List.getElem_toArray, List.getElem_cons_succ, List.getElem_cons_zero]
  refine held_take (i := 2) (v := .pointer (some ⟨w.heap.size, 4, none⟩)) rfl (by kernel_rfl) (by kernel_rfl) (by kernel_rfl) (fun _ _ _ h => h) rfl (fun _ hS => by obtain ⟨e1, e2⟩ := hS; go_simp) HSW ?_
  simp only [Act.put, List.setIfInBounds_toArray, List.set_cons_succ, List.set_cons_zero, List.getElem_toArray, List.getElem_cons_succ, List.getElem_cons_zero]
  refine held_take (i := 3) (v := .slice TA tn tc) rfl (by kernel_rfl) (by kernel_rfl) (by kernel_rfl) (fun _ _ _ h => h) rfl (fun _ hS => by obtain ⟨e1, e2⟩ := hS; go_simp) HSW ?_
  simp only [Act.put, List.setIfInBounds_toArray, List.set_cons_succ, List.set_cons_zero, List.getElem_toArray, List.getElem_cons_succ, List.getElem_cons_zero]
  refine held_take (i := 4) (v := .slice A1 n1 c1) rfl (by kernel_rfl) (by kernel_rfl) (by kernel_rfl) (fun _ _ _ h => h) rfl (fun _ hS => by obtain ⟨e1, e2⟩ := hS; go_simp) HSW ?_
  simp only [Act.put, List.setIfInBounds_toArray, List.set_cons_succ, List.set_cons_zero, List.getElem_toArray, List.getElem_cons_succ, List.getElem_cons_zero]
  have hdr : Below ws.heap.size ws ws.drew := (Below.refl _ _).drew
  refine held_call (i := 5) (by kernel_rfl) rfl rfl rfl (enters_of Try.func42 (by kernel_rfl) rfl) [.slice TA tn tc, .slice A1 n1 c1] rfl (ahead_open (F := Sn (w.heap.size + 1) S) (by omega) (fun b h => HF.out b (Nat.le_trans HZs.out h)) (HP.out.stay (.beneath (HBs.out.trans (hdr.mono HBs.out.size)) (fun b _ h => HS.out b h) fun _ _ h => .inl h)) (HRs.out.stay (.below hdr fun _ _ h => h))) ?_
  rintro e w3 ⟨A3, n3, c3, rfl, hR3, hB2⟩
  have hB3 : Below ws.heap.size ws w3 := hdr.trans hB2
  have hX3 := HXs.out.below hB3 HXs.out.lt
  have HSW3 : (fun w' : World => w'.cell? ⟨w.heap.size, 2, none⟩ = some (.string k) ∧ w'.cell? ⟨w.heap.size, 4, none⟩ = some (.slice TA tn tc)) w3 := ⟨hX3.cell (j := 2) rfl, hX3.cell (j := 4) rfl⟩
  refine ⟨_, rfl, HSW3, ?_⟩
  simp only [Act.put, List.setIfInBounds_toArray, List.set_cons_succ, List.set_cons_zero, List.getElem_toArray, List.getElem_cons_succ, List.getElem_cons_zero]
  have hZ3 : w.heap.size + 1 ≤ w3.heap.size := Nat.le_trans HZs.out hB3.size
  have hn3 := hR3.length
  have hkl : K.length = n1 := HRs.out.length
  have htl := toldT_len tx
  rw [List.length_append] at hn3
  refine held_call (i := 6) (by kernel_rfl) rfl rfl rfl (enters_of Try.func43 (by kernel_rfl) rfl) [.string k, .slice A3 n3 c3] rfl (fit_open (fitR k HPAR.out) (fun t ht => (List.mem_append.1 ht).elim (toldT_good tx t) (HKG.out t)) (by omega) (fun b h => HF.out b (Nat.le_trans hZ3 h)) hR3) ?_
  rintro e w4 ⟨A4, n4, c4, rfl, hr4, hB4⟩
  have hX4 := hX3.below hB4 hX3.lt
  have HSW4 : (fun w' : World => w'.cell? ⟨w.heap.size, 2, none⟩ = some (.string k) ∧ w'.cell? ⟨w.heap.size, 4, none⟩ = some (.slice TA tn tc)) w4 := ⟨hX4.cell (j := 2) rfl, hX4.cell (j := 4) rfl⟩
  refine ⟨_, rfl, HSW4, ?_⟩
  simp only [Act.put, List.setIfInBounds_toArray, List.set_cons_succ, List.set_cons_zero, List.getElem_toArray, List.getElem_cons_succ, List.getElem_cons_zero]
  refine held_take (i := 7) (v := .pointer (some ⟨w.heap.size, 5, none⟩)) rfl (by kernel_rfl) (by kernel_rfl) (by kernel_rfl) (fun _ _ _ h => h) rfl (fun _ hS => by obtain ⟨e1, e2⟩ := hS; go_simp) HSW4 ?_
  simp only [Act.put, List.setIfInBounds_toArray, List.set_cons_succ, List.set_cons_zero, List.getElem_toArray, List.getElem_cons_succ, List.getElem_cons_zero]
  have k5 : w4.cell? ⟨w.heap.size, 5, none⟩ = some (.slice none 0 0) := hX4.cell (j := 5) rfl
  have f5 : w4.frozen? ⟨w.heap.size, 5, none⟩ = false := hX4.frozen
  have hX5 : BoxN (w4.setCell ⟨w.heap.size, 5, none⟩ (.slice A4 n4 c4)) w.heap.size #[.int .i64 n, .int .i64 r, .string k, .slice AA an ac, .slice TA tn tc, .slice A4 n4 c4] 31 := hX4.setAt 5 (.slice A4 n4 c4)
  have HSW5 : (fun w' : World => w'.cell? ⟨w.heap.size, 2, none⟩ = some (.string k) ∧ w'.cell? ⟨w.heap.size, 4, none⟩ = some (.slice TA tn tc)) (w4.setCell ⟨w.heap.size, 5, none⟩ (.slice A4 n4 c4)) := ⟨hX5.cell (j := 2) rfl, hX5.cell (j := 4) rfl⟩
  have hB5 : Below w.heap.size w (w4.setCell ⟨w.heap.size, 5, none⟩ (.slice A4 n4 c4)) := (HBs.out.trans ((hB3.mono (by have := HZs.out; omega)).trans (hB4.mono (by omega)))).setCell (p := ⟨w.heap.size, 5, none⟩) (Nat.le_refl _) _
  have hR5 : RdF (w4.setCell ⟨w.heap.size, 5, none⟩ (.slice A4 n4 c4)) (Sn (w.heap.size + 1) S) A4 n4 c4 (fitT (kd k) (toldT tx ++ K)) := hr4.stay (set_stay _ (sn_ne HS.out) fun _ h => h)
  have hZ5 : w.heap.size + 1 ≤ (w4.setCell ⟨w.heap.size, 5, none⟩ (.slice A4 n4 c4)).heap.size := by have := hX5.lt; omega
  refine held_one (i := 8) (by kernel_rfl) rfl rfl ?_
  simp only [Act.put, List.setIfInBounds_toArray, List.set_cons_succ, List.set_cons_zero, List.getElem_toArray, List.getElem_cons_succ, List.getElem_cons_zero]
  clear HSW HSW3 HSW4 hX3 hB2 hB3 hB4 hR3 hr4 hX4 hdr hn3 hkl htl
  go_simp
  refine ⟨by kernel_rfl, ?_⟩
  clear HSW5 k5 f5
  generalize w4.setCell ⟨w.heap.size, 5, none⟩ (.slice A4 n4 c4) = w5 at *
  have HX5 := Lib.hid hX5
  have HB5 := Lib.hid hB5
  have HR5 := Lib.hid hR5
  have HZ5 := Lib.hid hZ5
  have w5c0 : w5.cell? ⟨w.heap.size, 0, none⟩ = some (.int .i64 n) := hX5.cell (j := 0) rfl
  have w5c1 : w5.cell? ⟨w.heap.size, 1, none⟩ = some (.int .i64 r) := hX5.cell (j := 1) rfl
  have w5c2 : w5.cell? ⟨w.heap.size, 2, none⟩ = some (.string k) := hX5.cell (j := 2) rfl
  have w5c3 : w5.cell? ⟨w.heap.size, 3, none⟩ = some (.slice AA an ac) := hX5.cell (j := 3) rfl
  have w5c4 : w5.cell? ⟨w.heap.size, 4, none⟩ = some (.slice TA tn tc) := hX5.cell (j := 4) rfl
  have w5c5 : w5.cell? ⟨w.heap.size, 5, none⟩ = some (.slice A4 n4 c4) := hX5.cell (j := 5) rfl
  have w5f : ∀ jj, w5.frozen? ⟨w.heap.size, jj, none⟩ = false := fun jj => hX5.frozen
  have hn4 := hR5.length
  have hn4b : (n4 : Int) ≤ 9223372036854775807 := by obtain ⟨zz, _, hz⟩ := hR5; have := hz.cap; have := hz.max; omega
  clear hX5 hB5 hR5 hZ5 HXs HBs HRs HZs
  by_cases hz4 : n4 = 0
  · subst hz4
    have hL : fitT (kd k) (toldT tx ++ K) = [] := List.eq_nil_of_length_eq_zero hn4
    have HW : Hid (orLeast (kd k) (fitT (kd k) (toldT tx ++ K)) = [leastT (kd k)]) := Lib.hid (by rw [hL]; rfl)
    clear hL hn4
    go_wp2_with fail
    refine (least_open (F := Sn (w.heap.size + 1) S) k (fun b h => HF.out b (Nat.le_trans HZ5.out (by simpa [World.setCell] using h)))).mono ?_
    rintro e w6 ⟨A6, n6, c6, rfl, hr6, hB6⟩
    have hX5s : BoxN (w5.setCell ⟨w.heap.size, 4, none⟩ (.slice none 0 0)) w.heap.size #[.int .i64 n, .int .i64 r, .string k, .slice AA an ac, .slice none 0 0, .slice A4 0 c4] 31 := HX5.out.setAt 4 (.slice none 0 0)
    have hX6 := hX5s.below hB6 hX5s.lt
    have hB7 : Below w.heap.size w w6 := (HB5.out.setCell (p := ⟨w.heap.size, 4, none⟩) (Nat.le_refl _) _).trans (hB6.mono (by have := hX5s.lt; omega))
    have h6lt := hX6.lt
    have HR6 := Lib.hid hr6
    have HB7 := Lib.hid hB7
    have w6c0 : w6.cell? ⟨w.heap.size, 0, none⟩ = some (.int .i64 n) := hX6.cell (j := 0) rfl
    have w6c1 : w6.cell? ⟨w.heap.size, 1, none⟩ = some (.int .i64 r) := hX6.cell (j := 1) rfl
    have w6c2 : w6.cell? ⟨w.heap.size, 2, none⟩ = some (.string k) := hX6.cell (j := 2) rfl
    have w6c3 : w6.cell? ⟨w.heap.size, 3, none⟩ = some (.slice AA an ac) := hX6.cell (j := 3) rfl
    have w6c4 : w6.cell? ⟨w.heap.size, 4, none⟩ = some (.slice none 0 0) := hX6.cell (j := 4) rfl
    have w6c5 : w6.cell? ⟨w.heap.size, 5, none⟩ = some (.slice A4 0 c4) := hX6.cell (j := 5) rfl
    have w6f : ∀ jj, w6.frozen? ⟨w.heap.size, jj, none⟩ = false := fun jj => hX6.frozen
    clear hX5s hX6 hB6 hB7 hr6 w5c0 w5c1 w5c2 w5c3 w5c4 w5c5 w5f
    go_wp2_with fail
    go_ret
    rw [HW.out]
    have hBf := (HB7.out.setCell (p := ⟨w.heap.size, 5, none⟩) (Nat.le_refl _) (.slice A6 n6 c6))
    have hv : NdF (w6.setCell ⟨w.heap.size, 5, none⟩ (.slice A6 n6 c6)) (Sn (w.heap.size + 1) S) [.int .i64 n, .int .i64 r, .string k, .slice AA an ac, .slice none 0 0, .slice A6 n6 c6] (.node n r k at_ [] [leastT (kd k)]) := NdF.node (HA.out.stay (.beneath hBf (fun b _ h => HS.out b h) fun _ _ h => .inl h)) (RdP.nil _ _) (HR6.out.stay (set_stay _ (sn_ne HS.out) fun _ h => h))
    have hv2 : NdF (w6.setCell ⟨w.heap.size, 5, none⟩ (.slice A6 n6 c6)) (Sn (w.heap.size + 1) S) (#[.int .i64 n, .int .i64 r, .string k, .slice AA an ac, .slice none 0 0, .slice A6 n6 c6] : Array Value).toList (.node n r k at_ [] [leastT (kd k)]) := hv
    refine ⟨_, _, _, rfl, RdF.one (w := (w6.setCell ⟨w.heap.size, 5, none⟩ (.slice A6 n6 c6))) (S := Sn (w.heap.size + 1) S) (S' := Sn w.heap.size S) #[.int .i64 n, .int .i64 r, .string k, .slice AA an ac, .slice none 0 0, .slice A6 n6 c6] (.node n r k at_ [] [leastT (kd k)]) hv2 (fun b _ h => sn_more b h) _ (by simp [World.setCell]) (.inr (by omega)), hBf.alloc hBf.size _⟩
  · have hL : fitT (kd k) (toldT tx ++ K) ≠ [] := fun e => hz4 (by rw [e] at hn4; exact hn4.symm)
    have HW : Hid (orLeast (kd k) (fitT (kd k) (toldT tx ++ K)) = fitT (kd k) (toldT tx ++ K)) := Lib.hid (if_neg hL)
    have hi : ¬ (n4 : Int) = 0 := by omega
    have g1 : ((n4 : Int) == 0) = false := by simpa using hi
    clear hL hn4 hi
    go_wp2_with fail
    go_ret
    rw [HW.out]
    have hBf := (HB5.out.setCell (p := ⟨w.heap.size, 4, none⟩) (Nat.le_refl _) (.slice none 0 0))
    have hv : NdF (w5.setCell ⟨w.heap.size, 4, none⟩ (.slice none 0 0)) (Sn (w.heap.size + 1) S) [.int .i64 n, .int .i64 r, .string k, .slice AA an ac, .slice none 0 0, .slice A4 n4 c4] (.node n r k at_ [] (fitT (kd k) (toldT tx ++ K))) := NdF.node (HA.out.stay (.beneath hBf (fun b _ h => HS.out b h) fun _ _ h => .inl h)) (RdP.nil _ _) (HR5.out.stay (set_stay _ (sn_ne HS.out) fun _ h => h))
    have hv2 : NdF (w5.setCell ⟨w.heap.size, 4, none⟩ (.slice none 0 0)) (Sn (w.heap.size + 1) S) (#[.int .i64 n, .int .i64 r, .string k, .slice AA an ac, .slice none 0 0, .slice A4 n4 c4] : Array Value).toList (.node n r k at_ [] (fitT (kd k) (toldT tx ++ K))) := hv
    refine ⟨_, _, _, rfl, RdF.one (w := (w5.setCell ⟨w.heap.size, 4, none⟩ (.slice none 0 0))) (S := Sn (w.heap.size + 1) S) (S' := Sn w.heap.size S) #[.int .i64 n, .int .i64 r, .string k, .slice AA an ac, .slice none 0 0, .slice A4 n4 c4] (.node n r k at_ [] (fitT (kd k) (toldT tx ++ K))) hv2 (fun b _ h => sn_more b h) _ (by simp [World.setCell]) (.inr (by have := HX5.out.lt; omega)), hBf.alloc hBf.size _⟩

set_option maxRecDepth 100000 in
set_option maxHeartbeats 2000000 in
theorem node55_row (N : Nat) (hR : RowC 44 N) (n r : Int) (k : ByteArray) (at_ : List Att) (tx : List Pce) (ks : List RT) (hk : kd k = .row) (h1 : rsizeL ks < N) (h2 : rsizeL ks ≤ 100000)
    (w : World) (S : Nat → Prop) (AA : Option Addr) (an ac : Nat) (TA : Option Addr) (tn tc : Nat) (A : Option Addr) (m c : Nat) (hS : ∀ b, S b → b < w.heap.size) (ha : RdAF w S AA an ac at_) (hp : RdPF w S TA tn tc tx) (hks : RdF w S A m c ks) :
    Calls Try.prog 55 #[.agg #[.int .i64 n, .int .i64 r, .string k, .slice AA an ac, .slice TA tn tc, .slice A m c]] w (GivesR w S (nodeK n r k at_ tx (rowT ks))) := by
  have hB0 : Below w.heap.size w (w.alloc (.cells #[.int .i64 n, .int .i64 r, .string k, .slice AA an ac, .slice TA tn tc, .slice A m c] 31)) := blAl _
  have hF : ∀ b, w.heap.size + 1 ≤ b → Sn (w.heap.size + 1) S b := fun b h => .inr h
  have hs0 : (w.alloc (.cells #[.int .i64 n, .int .i64 r, .string k, .slice AA an ac, .slice TA tn tc, .slice A m c] 31)).heap.size = w.heap.size + 1 := World.size_alloc _ _
  have HC := Lib.hid (row_open (W := w.alloc (.cells #[.int .i64 n, .int .i64 r, .string k, .slice AA an ac, .slice TA tn tc, .slice A m c] 31)) (F := Sn (w.heap.size + 1) S) hR h1 h2 (fun b h => hF b (by rw [← hs0]; exact h)) (hks.stay (.below hB0 fun _ _ h => .inl h)))
  have hKL : (rowT ks).length ≤ 500000 := Nat.le_trans (rowT_len ks) (by omega)
  have hKG := rowT_good ks
  have X0 := BoxN.made w #[.int .i64 n, .int .i64 r, .string k, .slice AA an ac, .slice TA tn tc, .slice A m c] 31
  have HX0 := Lib.hid X0
  have HS := Lib.hid hS
  have HA := Lib.hid ha
  have HP := Lib.hid hp
  have HB0 := Lib.hid hB0
  have HF := Lib.hid hF
  have HS0 := Lib.hid hs0
  have HKL := Lib.hid hKL
  have HKG := Lib.hid hKG
  generalize rowT ks = K at *
  clear hS ha hp hks hB0 hF hs0 hKL hKG X0 hR h1 h2
  have qpara : (k.toList == [112, 97, 114, 97]) = false := by rw [is_para, hk]; rfl
  have qhead : (k.toList == [104, 101, 97, 100]) = false := by rw [is_head, hk]; rfl
  have qdoc : (k.toList == [100, 111, 99]) = false := by rw [is_doc, hk]; rfl
  have HKN : Hid (Calls Try.prog 33 #[.string k] (w.alloc (.cells #[.int .i64 n, .int .i64 r, .string k, .slice AA an ac, .slice TA tn tc, .slice A m c] 31)) fun e w' => e = .returned (.bool true) ∧ (w.alloc (.cells #[.int .i64 n, .int .i64 r, .string k, .slice AA an ac, .slice TA tn tc, .slice A m c] 31)) = w') := Lib.hid ((known_any k _).mono fun _ _ h => ⟨by rw [h.1, hk]; rfl, h.2.symm⟩)
  have HHO : Hid (∀ W, Calls Try.prog 18 #[.string k] W fun e w' => e = .returned (.bool false) ∧ W = w') := Lib.hid fun W => (rholds_any k W).mono fun _ _ h => ⟨by rw [h.1, hk]; rfl, h.2.symm⟩
  have hw : nodeK n r k at_ tx K = [.node n r k at_ [] (orLeast (kd k) (fitT (kd k) (toldT tx ++ K)))] := by unfold nodeK; rw [hk]
  rw [hw]
  have hpar : Par (kd k) := by rw [hk]; simp [Par]
  have HPAR := Lib.hid hpar
  clear hw hk hpar
  go_enter Try.func55, Try.ntmps55
  go_wp2_with fail
  refine HKN.out.mono ?_
  rintro e w' ⟨rfl, rfl⟩
  clear HKN
  go_wp2_with fail
  refine HC.out.mono ?_
  rintro e w1 ⟨A1, n1, c1, rfl, hr1, hB1⟩
  have hX1 := HX0.out.below hB1 HX0.out.lt
  have HX1 := Lib.hid hX1
  have HB1 := Lib.hid (HB0.out.trans (hB1.mono HB0.out.size))
  have HZ1 : Hid (w.heap.size + 1 ≤ w1.heap.size) := Lib.hid (by have := hB1.size; rw [HS0.out] at this; exact this)
  have HR1 := Lib.hid hr1
  have w1c0 : w1.cell? ⟨w.heap.size, 0, none⟩ = some (.int .i64 n) := hX1.cell (j := 0) rfl
  have w1c1 : w1.cell? ⟨w.heap.size, 1, none⟩ = some (.int .i64 r) := hX1.cell (j := 1) rfl
  have w1c2 : w1.cell? ⟨w.heap.size, 2, none⟩ = some (.string k) := hX1.cell (j := 2) rfl
  have w1c3 : w1.cell? ⟨w.heap.size, 3, none⟩ = some (.slice AA an ac) := hX1.cell (j := 3) rfl
  have w1c4 : w1.cell? ⟨w.heap.size, 4, none⟩ = some (.slice TA tn tc) := hX1.cell (j := 4) rfl
  have w1c5 : w1.cell? ⟨w.heap.size, 5, none⟩ = some (.slice A m c) := hX1.cell (j := 5) rfl
  have w1f : ∀ jj, w1.frozen? ⟨w.heap.size, jj, none⟩ = false := fun jj => hX1.frozen
  clear hX1 hr1 hB1 HC HX0 HB0
  go_wp2_with fail
  refine (HHO.out _).mono ?_
  rintro e w' ⟨rfl, rfl⟩
  go_wp2_with fail
  have hXs : BoxN (w1.setCell ⟨w.heap.size, 5, none⟩ (.slice none 0 0)) w.heap.size #[.int .i64 n, .int .i64 r, .string k, .slice AA an ac, .slice TA tn tc, .slice none 0 0] 31 := HX1.out.setAt 5 (.slice none 0 0)
  have hBs : Below w.heap.size w (w1.setCell ⟨w.heap.size, 5, none⟩ (.slice none 0 0)) := HB1.out.setCell (p := ⟨w.heap.size, 5, none⟩) (Nat.le_refl _) _
  have hRs : RdF (w1.setCell ⟨w.heap.size, 5, none⟩ (.slice none 0 0)) (Sn (w.heap.size + 1) S) A1 n1 c1 K := HR1.out.stay (set_stay _ (sn_ne HS.out) fun _ h => h)
  have hzs : w.heap.size + 1 ≤ (w1.setCell ⟨w.heap.size, 5, none⟩ (.slice none 0 0)).heap.size := by have := HZ1.out; simpa [World.setCell] using this
  have hn1 : n1 ≤ 500000 := by have := HR1.out.length; have := HKL.out; omega
  clear HX1 HB1 HZ1 HR1 w1c0 w1c1 w1c2 w1c3 w1c4 w1c5 w1f
  generalize w1.setCell ⟨w.heap.size, 5, none⟩ (.slice none 0 0) = ws at *
  have HXs := Lib.hid hXs
  have HBs := Lib.hid hBs
  have HRs := Lib.hid hRs
  have HZs := Lib.hid hzs
  clear hXs hBs hRs hzs
  refine wp_region_held (S := (fun w' : World => w'.cell? ⟨w.heap.size, 2, none⟩ = some (.string k) ∧ w'.cell? ⟨w.heap.size, 4, none⟩ = some (.slice TA tn tc))) (by kernel_rfl) ?_
  change wpAnyH _ _ _ _ _ _ _ _ ws.drew
  have HSW : (fun w' : World => w'.cell? ⟨w.heap.size, 2, none⟩ = some (.string k) ∧ w'.cell? ⟨w.heap.size, 4, none⟩ = some (.slice TA tn tc)) ws.drew := ⟨HXs.out.cell (j := 2) rfl, HXs.out.cell (j := 4) rfl⟩
  refine held_take (i := 0) (v := .pointer (some ⟨w.heap.size, 2, none⟩)) rfl (by kernel_rfl) (by kernel_rfl) (by kernel_rfl) (fun _ _ _ h => h) rfl (fun _ hS => by obtain ⟨e1, e2⟩ := hS; go_simp) HSW ?_
  simp only [Act.put, List.setIfInBounds_toArray, List.set_cons_succ, List.set_cons_zero, List.getElem_toArray, List.getElem_cons_succ, List.getElem_cons_zero]
  refine held_take (i := 1) (v := .string k) rfl (by kernel_rfl) (by kernel_rfl) (by kernel_rfl) (fun _ _ _ h => h) rfl (fun _ hS => by obtain ⟨e1, e2⟩ := hS; go_simp) HSW ?_
  simp only [Act.put, List.setIfInBounds_toArray, List.set_cons_succ, List.set_cons_zero, List.getElem_toArray, List.getElem_cons_succ, List.getElem_cons_zero]
  refine held_take (i := 2) (v := .pointer (some ⟨w.heap.size, 4, none⟩)) rfl (by kernel_rfl) (by kernel_rfl) (by kernel_rfl) (fun _ _ _ h => h) rfl (fun _ hS => by obtain ⟨e1, e2⟩ := hS; go_simp) HSW ?_
  simp only [Act.put, List.setIfInBounds_toArray, List.set_cons_succ, List.set_cons_zero, List.getElem_toArray, List.getElem_cons_succ, List.getElem_cons_zero]
  refine held_take (i := 3) (v := .slice TA tn tc) rfl (by kernel_rfl) (by kernel_rfl) (by kernel_rfl) (fun _ _ _ h => h) rfl (fun _ hS => by obtain ⟨e1, e2⟩ := hS; go_simp) HSW ?_
  simp only [Act.put, List.setIfInBounds_toArray, List.set_cons_succ, List.set_cons_zero, List.getElem_toArray, List.getElem_cons_succ, List.getElem_cons_zero]
  refine held_take (i := 4) (v := .slice A1 n1 c1) rfl (by kernel_rfl) (by kernel_rfl) (by kernel_rfl) (fun _ _ _ h => h) rfl (fun _ hS => by obtain ⟨e1, e2⟩ := hS; go_simp) HSW ?_
  simp only [Act.put, List.setIfInBounds_toArray, List.set_cons_succ, List.set_cons_zero, List.getElem_toArray, List.getElem_cons_succ, List.getElem_cons_zero]
  have hdr : Below ws.heap.size ws ws.drew := (Below.refl _ _).drew
  refine held_call (i := 5) (by kernel_rfl) rfl rfl rfl (enters_of Try.func42 (by kernel_rfl) rfl) [.slice TA tn tc, .slice A1 n1 c1] rfl (ahead_open (F := Sn (w.heap.size + 1) S) (by omega) (fun b h => HF.out b (Nat.le_trans HZs.out h)) (HP.out.stay (.beneath (HBs.out.trans (hdr.mono HBs.out.size)) (fun b _ h => HS.out b h) fun _ _ h => .inl h)) (HRs.out.stay (.below hdr fun _ _ h => h))) ?_
  rintro e w3 ⟨A3, n3, c3, rfl, hR3, hB2⟩
  have hB3 : Below ws.heap.size ws w3 := hdr.trans hB2
  have hX3 := HXs.out.below hB3 HXs.out.lt
  have HSW3 : (fun w' : World => w'.cell? ⟨w.heap.size, 2, none⟩ = some (.string k) ∧ w'.cell? ⟨w.heap.size, 4, none⟩ = some (.slice TA tn tc)) w3 := ⟨hX3.cell (j := 2) rfl, hX3.cell (j := 4) rfl⟩
  refine ⟨_, rfl, HSW3, ?_⟩
  simp only [Act.put, List.setIfInBounds_toArray, List.set_cons_succ, List.set_cons_zero, List.getElem_toArray, List.getElem_cons_succ, List.getElem_cons_zero]
  have hZ3 : w.heap.size + 1 ≤ w3.heap.size := Nat.le_trans HZs.out hB3.size
  have hn3 := hR3.length
  have hkl : K.length = n1 := HRs.out.length
  have htl := toldT_len tx
  rw [List.length_append] at hn3
  refine held_call (i := 6) (by kernel_rfl) rfl rfl rfl (enters_of Try.func43 (by kernel_rfl) rfl) [.string k, .slice A3 n3 c3] rfl (fit_open (fitR k HPAR.out) (fun t ht => (List.mem_append.1 ht).elim (toldT_good tx t) (HKG.out t)) (by omega) (fun b h => HF.out b (Nat.le_trans hZ3 h)) hR3) ?_
  rintro e w4 ⟨A4, n4, c4, rfl, hr4, hB4⟩
  have hX4 := hX3.below hB4 hX3.lt
  have HSW4 : (fun w' : World => w'.cell? ⟨w.heap.size, 2, none⟩ = some (.string k) ∧ w'.cell? ⟨w.heap.size, 4, none⟩ = some (.slice TA tn tc)) w4 := ⟨hX4.cell (j := 2) rfl, hX4.cell (j := 4) rfl⟩
  refine ⟨_, rfl, HSW4, ?_⟩
  simp only [Act.put, List.setIfInBounds_toArray, List.set_cons_succ, List.set_cons_zero, List.getElem_toArray, List.getElem_cons_succ, List.getElem_cons_zero]
  refine held_take (i := 7) (v := .pointer (some ⟨w.heap.size, 5, none⟩)) rfl (by kernel_rfl) (by kernel_rfl) (by kernel_rfl) (fun _ _ _ h => h) rfl (fun _ hS => by obtain ⟨e1, e2⟩ := hS; go_simp) HSW4 ?_
  simp only [Act.put, List.setIfInBounds_toArray, List.set_cons_succ, List.set_cons_zero, List.getElem_toArray, List.getElem_cons_succ, List.getElem_cons_zero]
  have k5 : w4.cell? ⟨w.heap.size, 5, none⟩ = some (.slice none 0 0) := hX4.cell (j := 5) rfl
  have f5 : w4.frozen? ⟨w.heap.size, 5, none⟩ = false := hX4.frozen
  have hX5 : BoxN (w4.setCell ⟨w.heap.size, 5, none⟩ (.slice A4 n4 c4)) w.heap.size #[.int .i64 n, .int .i64 r, .string k, .slice AA an ac, .slice TA tn tc, .slice A4 n4 c4] 31 := hX4.setAt 5 (.slice A4 n4 c4)
  have HSW5 : (fun w' : World => w'.cell? ⟨w.heap.size, 2, none⟩ = some (.string k) ∧ w'.cell? ⟨w.heap.size, 4, none⟩ = some (.slice TA tn tc)) (w4.setCell ⟨w.heap.size, 5, none⟩ (.slice A4 n4 c4)) := ⟨hX5.cell (j := 2) rfl, hX5.cell (j := 4) rfl⟩
  have hB5 : Below w.heap.size w (w4.setCell ⟨w.heap.size, 5, none⟩ (.slice A4 n4 c4)) := (HBs.out.trans ((hB3.mono (by have := HZs.out; omega)).trans (hB4.mono (by omega)))).setCell (p := ⟨w.heap.size, 5, none⟩) (Nat.le_refl _) _
  have hR5 : RdF (w4.setCell ⟨w.heap.size, 5, none⟩ (.slice A4 n4 c4)) (Sn (w.heap.size + 1) S) A4 n4 c4 (fitT (kd k) (toldT tx ++ K)) := hr4.stay (set_stay _ (sn_ne HS.out) fun _ h => h)
  have hZ5 : w.heap.size + 1 ≤ (w4.setCell ⟨w.heap.size, 5, none⟩ (.slice A4 n4 c4)).heap.size := by have := hX5.lt; omega
  refine held_one (i := 8) (by kernel_rfl) rfl rfl ?_
  simp only [Act.put, List.setIfInBounds_toArray, List.set_cons_succ, List.set_cons_zero, List.getElem_toArray, List.getElem_cons_succ, List.getElem_cons_zero]
  clear HSW HSW3 HSW4 hX3 hB2 hB3 hB4 hR3 hr4 hX4 hdr hn3 hkl htl
  go_simp
  refine ⟨by kernel_rfl, ?_⟩
  clear HSW5 k5 f5
  generalize w4.setCell ⟨w.heap.size, 5, none⟩ (.slice A4 n4 c4) = w5 at *
  have HX5 := Lib.hid hX5
  have HB5 := Lib.hid hB5
  have HR5 := Lib.hid hR5
  have HZ5 := Lib.hid hZ5
  have w5c0 : w5.cell? ⟨w.heap.size, 0, none⟩ = some (.int .i64 n) := hX5.cell (j := 0) rfl
  have w5c1 : w5.cell? ⟨w.heap.size, 1, none⟩ = some (.int .i64 r) := hX5.cell (j := 1) rfl
  have w5c2 : w5.cell? ⟨w.heap.size, 2, none⟩ = some (.string k) := hX5.cell (j := 2) rfl
  have w5c3 : w5.cell? ⟨w.heap.size, 3, none⟩ = some (.slice AA an ac) := hX5.cell (j := 3) rfl
  have w5c4 : w5.cell? ⟨w.heap.size, 4, none⟩ = some (.slice TA tn tc) := hX5.cell (j := 4) rfl
  have w5c5 : w5.cell? ⟨w.heap.size, 5, none⟩ = some (.slice A4 n4 c4) := hX5.cell (j := 5) rfl
  have w5f : ∀ jj, w5.frozen? ⟨w.heap.size, jj, none⟩ = false := fun jj => hX5.frozen
  have hn4 := hR5.length
  have hn4b : (n4 : Int) ≤ 9223372036854775807 := by obtain ⟨zz, _, hz⟩ := hR5; have := hz.cap; have := hz.max; omega
  clear hX5 hB5 hR5 hZ5 HXs HBs HRs HZs
  by_cases hz4 : n4 = 0
  · subst hz4
    have hL : fitT (kd k) (toldT tx ++ K) = [] := List.eq_nil_of_length_eq_zero hn4
    have HW : Hid (orLeast (kd k) (fitT (kd k) (toldT tx ++ K)) = [leastT (kd k)]) := Lib.hid (by rw [hL]; rfl)
    clear hL hn4
    go_wp2_with fail
    refine (least_open (F := Sn (w.heap.size + 1) S) k (fun b h => HF.out b (Nat.le_trans HZ5.out (by simpa [World.setCell] using h)))).mono ?_
    rintro e w6 ⟨A6, n6, c6, rfl, hr6, hB6⟩
    have hX5s : BoxN (w5.setCell ⟨w.heap.size, 4, none⟩ (.slice none 0 0)) w.heap.size #[.int .i64 n, .int .i64 r, .string k, .slice AA an ac, .slice none 0 0, .slice A4 0 c4] 31 := HX5.out.setAt 4 (.slice none 0 0)
    have hX6 := hX5s.below hB6 hX5s.lt
    have hB7 : Below w.heap.size w w6 := (HB5.out.setCell (p := ⟨w.heap.size, 4, none⟩) (Nat.le_refl _) _).trans (hB6.mono (by have := hX5s.lt; omega))
    have h6lt := hX6.lt
    have HR6 := Lib.hid hr6
    have HB7 := Lib.hid hB7
    have w6c0 : w6.cell? ⟨w.heap.size, 0, none⟩ = some (.int .i64 n) := hX6.cell (j := 0) rfl
    have w6c1 : w6.cell? ⟨w.heap.size, 1, none⟩ = some (.int .i64 r) := hX6.cell (j := 1) rfl
    have w6c2 : w6.cell? ⟨w.heap.size, 2, none⟩ = some (.string k) := hX6.cell (j := 2) rfl
    have w6c3 : w6.cell? ⟨w.heap.size, 3, none⟩ = some (.slice AA an ac) := hX6.cell (j := 3) rfl
    have w6c4 : w6.cell? ⟨w.heap.size, 4, none⟩ = some (.slice none 0 0) := hX6.cell (j := 4) rfl
    have w6c5 : w6.cell? ⟨w.heap.size, 5, none⟩ = some (.slice A4 0 c4) := hX6.cell (j := 5) rfl
    have w6f : ∀ jj, w6.frozen? ⟨w.heap.size, jj, none⟩ = false := fun jj => hX6.frozen
    clear hX5s hX6 hB6 hB7 hr6 w5c0 w5c1 w5c2 w5c3 w5c4 w5c5 w5f
    go_wp2_with fail
    go_ret
    rw [HW.out]
    have hBf := (HB7.out.setCell (p := ⟨w.heap.size, 5, none⟩) (Nat.le_refl _) (.slice A6 n6 c6))
    have hv : NdF (w6.setCell ⟨w.heap.size, 5, none⟩ (.slice A6 n6 c6)) (Sn (w.heap.size + 1) S) [.int .i64 n, .int .i64 r, .string k, .slice AA an ac, .slice none 0 0, .slice A6 n6 c6] (.node n r k at_ [] [leastT (kd k)]) := NdF.node (HA.out.stay (.beneath hBf (fun b _ h => HS.out b h) fun _ _ h => .inl h)) (RdP.nil _ _) (HR6.out.stay (set_stay _ (sn_ne HS.out) fun _ h => h))
    have hv2 : NdF (w6.setCell ⟨w.heap.size, 5, none⟩ (.slice A6 n6 c6)) (Sn (w.heap.size + 1) S) (#[.int .i64 n, .int .i64 r, .string k, .slice AA an ac, .slice none 0 0, .slice A6 n6 c6] : Array Value).toList (.node n r k at_ [] [leastT (kd k)]) := hv
    refine ⟨_, _, _, rfl, RdF.one (w := (w6.setCell ⟨w.heap.size, 5, none⟩ (.slice A6 n6 c6))) (S := Sn (w.heap.size + 1) S) (S' := Sn w.heap.size S) #[.int .i64 n, .int .i64 r, .string k, .slice AA an ac, .slice none 0 0, .slice A6 n6 c6] (.node n r k at_ [] [leastT (kd k)]) hv2 (fun b _ h => sn_more b h) _ (by simp [World.setCell]) (.inr (by omega)), hBf.alloc hBf.size _⟩
  · have hL : fitT (kd k) (toldT tx ++ K) ≠ [] := fun e => hz4 (by rw [e] at hn4; exact hn4.symm)
    have HW : Hid (orLeast (kd k) (fitT (kd k) (toldT tx ++ K)) = fitT (kd k) (toldT tx ++ K)) := Lib.hid (if_neg hL)
    have hi : ¬ (n4 : Int) = 0 := by omega
    have g1 : ((n4 : Int) == 0) = false := by simpa using hi
    clear hL hn4 hi
    go_wp2_with fail
    go_ret
    rw [HW.out]
    have hBf := (HB5.out.setCell (p := ⟨w.heap.size, 4, none⟩) (Nat.le_refl _) (.slice none 0 0))
    have hv : NdF (w5.setCell ⟨w.heap.size, 4, none⟩ (.slice none 0 0)) (Sn (w.heap.size + 1) S) [.int .i64 n, .int .i64 r, .string k, .slice AA an ac, .slice none 0 0, .slice A4 n4 c4] (.node n r k at_ [] (fitT (kd k) (toldT tx ++ K))) := NdF.node (HA.out.stay (.beneath hBf (fun b _ h => HS.out b h) fun _ _ h => .inl h)) (RdP.nil _ _) (HR5.out.stay (set_stay _ (sn_ne HS.out) fun _ h => h))
    have hv2 : NdF (w5.setCell ⟨w.heap.size, 4, none⟩ (.slice none 0 0)) (Sn (w.heap.size + 1) S) (#[.int .i64 n, .int .i64 r, .string k, .slice AA an ac, .slice none 0 0, .slice A4 n4 c4] : Array Value).toList (.node n r k at_ [] (fitT (kd k) (toldT tx ++ K))) := hv
    refine ⟨_, _, _, rfl, RdF.one (w := (w5.setCell ⟨w.heap.size, 4, none⟩ (.slice none 0 0))) (S := Sn (w.heap.size + 1) S) (S' := Sn w.heap.size S) #[.int .i64 n, .int .i64 r, .string k, .slice AA an ac, .slice none 0 0, .slice A4 n4 c4] (.node n r k at_ [] (fitT (kd k) (toldT tx ++ K))) hv2 (fun b _ h => sn_more b h) _ (by simp [World.setCell]) (.inr (by have := HX5.out.lt; omega)), hBf.alloc hBf.size _⟩

end Go.Proofs.Ytcdhndhgainadaa
