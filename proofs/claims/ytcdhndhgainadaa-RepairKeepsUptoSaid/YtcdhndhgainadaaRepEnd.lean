/-
  RepEnd: RepairF, CountX, RepKit, one behind the other.
-/
import Derived.Test.YtcdhndhgainadaaNodeF
import Derived.Test.YtcdhndhgainadaaNodeN
import Derived.Test.YtcdhndhgainadaaRNodeF
import Derived.Test.YtcdhndhgainadaaRNodeN
import Derived.Test.YtcdhndhgainadaaCountM

/-
  The contracts of Repair (program and document).
-/
namespace Go.Proofs.Ytcdhndhgainadaa
open Go Go.RowKit
set_option linter.unusedVariables false
set_option linter.unusedSimpArgs false

theorem node51_of (N : Nat) (hR : RowC 41 N) : NodeC 51 (N + 1) := by
  intro t h1 h2 w S v hS hv
  obtain ⟨n, r, k, AA, an, ac, TA, tn, tc, A, m, c, at_, tx, ks, rfl, rfl, ha, hp, hks⟩ := hv.parts
  rw [rsize] at h1 h2
  rw [nodeT]
  cases hk : kd k
  case para => exact node51_para N hR n r k at_ tx ks hk (by omega) (by omega) w S AA an ac TA tn tc A m c hS ha hp hks
  case head => exact node51_head N hR n r k at_ tx ks hk (by omega) (by omega) w S AA an ac TA tn tc A m c hS ha hp hks
  case quote => exact node51_quote N hR n r k at_ tx ks hk (by omega) (by omega) w S AA an ac TA tn tc A m c hS ha hp hks
  case list => exact node51_list N hR n r k at_ tx ks hk (by omega) (by omega) w S AA an ac TA tn tc A m c hS ha hp hks
  case table => exact node51_table N hR n r k at_ tx ks hk (by omega) (by omega) w S AA an ac TA tn tc A m c hS ha hp hks
  case item => exact node51_item N hR n r k at_ tx ks hk (by omega) (by omega) w S AA an ac TA tn tc A m c hS ha hp hks
  case row => exact node51_row N hR n r k at_ tx ks hk (by omega) (by omega) w S AA an ac TA tn tc A m c hS ha hp hks
  case cell => exact node51_cell N hR n r k at_ tx ks hk (by omega) (by omega) w S AA an ac TA tn tc A m c hS ha hp hks
  case doc => exact node51_doc N hR n r k at_ tx ks hk (by omega) (by omega) w S AA an ac TA tn tc A m c hS ha hp hks
  case other => exact node51_other N hR n r k at_ tx ks hk (by omega) (by omega) w S AA an ac TA tn tc A m c hS ha hp hks
theorem node51_any : ∀ N, NodeC 51 N
  | 0 => fun t h => absurd h (Nat.not_lt_zero _)
  | N + 1 => node51_of N (row41_of N (node51_any N))
theorem row41_any (N : Nat) : RowC 41 N := row41_of N (node51_any N)

theorem node55_of (N : Nat) (hR : RowC 44 N) : NodeC 55 (N + 1) := by
  intro t h1 h2 w S v hS hv
  obtain ⟨n, r, k, AA, an, ac, TA, tn, tc, A, m, c, at_, tx, ks, rfl, rfl, ha, hp, hks⟩ := hv.parts
  rw [rsize] at h1 h2
  rw [nodeT]
  cases hk : kd k
  case para => exact node55_para N hR n r k at_ tx ks hk (by omega) (by omega) w S AA an ac TA tn tc A m c hS ha hp hks
  case head => exact node55_head N hR n r k at_ tx ks hk (by omega) (by omega) w S AA an ac TA tn tc A m c hS ha hp hks
  case quote => exact node55_quote N hR n r k at_ tx ks hk (by omega) (by omega) w S AA an ac TA tn tc A m c hS ha hp hks
  case list => exact node55_list N hR n r k at_ tx ks hk (by omega) (by omega) w S AA an ac TA tn tc A m c hS ha hp hks
  case table => exact node55_table N hR n r k at_ tx ks hk (by omega) (by omega) w S AA an ac TA tn tc A m c hS ha hp hks
  case item => exact node55_item N hR n r k at_ tx ks hk (by omega) (by omega) w S AA an ac TA tn tc A m c hS ha hp hks
  case row => exact node55_row N hR n r k at_ tx ks hk (by omega) (by omega) w S AA an ac TA tn tc A m c hS ha hp hks
  case cell => exact node55_cell N hR n r k at_ tx ks hk (by omega) (by omega) w S AA an ac TA tn tc A m c hS ha hp hks
  case doc => exact node55_doc N hR n r k at_ tx ks hk (by omega) (by omega) w S AA an ac TA tn tc A m c hS ha hp hks
  case other => exact node55_other N hR n r k at_ tx ks hk (by omega) (by omega) w S AA an ac TA tn tc A m c hS ha hp hks
theorem node55_any : ∀ N, NodeC 55 N
  | 0 => fun t h => absurd h (Nat.not_lt_zero _)
  | N + 1 => node55_of N (row44_of N (node55_any N))
theorem row44_any (N : Nat) : RowC 44 N := row44_of N (node55_any N)

theorem sn_ne2 {S : Nat → Prop} {g : Nat} (hS : ∀ b, S b → b < g) : ∀ b, Sn (g + 2) S b → b ≠ g ∧ b ≠ g + 1 := fun b h => by
  rcases h with h | h
  · have := hS b h; omega
  · omega
theorem sn_more2 {S : Nat → Prop} {g : Nat} : ∀ b, Sn (g + 2) S b → Sn g S b := fun b h => h.imp id fun h => by omega

set_option maxRecDepth 100000 in
set_option maxHeartbeats 2000000 in
theorem repair28_any (t : RT) (ht : rsize t ≤ 100000) (w : World) (S : Nat → Prop) (v : List Value) (hS : ∀ b, S b → b < w.heap.size) (hv : NdF w S v t) : Calls Try.prog 28 #[.agg v.toArray] w (GivesN w S (repairT t)) := by
  obtain ⟨n, r, k, AA, an, ac, TA, tn, tc, A, m, c, at_, tx, ks, rfl, rfl, ha, hp, hks⟩ := hv.parts
  rw [rsize] at ht
  have hX0 := (BoxN.made w #[.int .i64 n, .int .i64 r, .string k, .slice AA an ac, .slice TA tn tc, .slice A m c] 31).alloc (.cells #[.int .i64 0, .int .i64 0, .string ⟨#[]⟩, .slice none 0 0, .slice none 0 0, .slice none 0 0] 31)
  have hY0 := BoxN.made (w.alloc (.cells #[.int .i64 n, .int .i64 r, .string k, .slice AA an ac, .slice TA tn tc, .slice A m c] 31)) #[.int .i64 0, .int .i64 0, .string ⟨#[]⟩, .slice none 0 0, .slice none 0 0, .slice none 0 0] 31
  rw [World.size_alloc] at hY0
  have hB0 : Below w.heap.size w ((w.alloc (.cells #[.int .i64 n, .int .i64 r, .string k, .slice AA an ac, .slice TA tn tc, .slice A m c] 31)).alloc (.cells #[.int .i64 0, .int .i64 0, .string ⟨#[]⟩, .slice none 0 0, .slice none 0 0, .slice none 0 0] 31)) := blOn (blAl _) _
  have hz0 : w.heap.size + 2 ≤ ((w.alloc (.cells #[.int .i64 n, .int .i64 r, .string k, .slice AA an ac, .slice TA tn tc, .slice A m c] 31)).alloc (.cells #[.int .i64 0, .int .i64 0, .string ⟨#[]⟩, .slice none 0 0, .slice none 0 0, .slice none 0 0] 31)).heap.size := by simp
  have HS := Lib.hid hS
  have HA := Lib.hid ha
  have HP := Lib.hid hp
  have HK := Lib.hid hks
  have HKG := Lib.hid (rowT_good ks)
  have HKL : Hid ((rowT ks).length ≤ 500000) := Lib.hid (Nat.le_trans (rowT_len ks) (by omega))
  have HT : Hid (rsizeL ks ≤ 100000) := Lib.hid (by omega)
  clear hS ha hp hks hv ht
  go_enter Try.func28, Try.ntmps28
  go_wp2_with fail
  generalize ((w.alloc (.cells #[.int .i64 n, .int .i64 r, .string k, .slice AA an ac, .slice TA tn tc, .slice A m c] 31)).alloc (.cells #[.int .i64 0, .int .i64 0, .string ⟨#[]⟩, .slice none 0 0, .slice none 0 0, .slice none 0 0] 31)) = ws at *
  have HX0 := Lib.hid hX0
  have HY0 := Lib.hid hY0
  have HB0 := Lib.hid hB0
  have HZ0 := Lib.hid hz0
  clear hX0 hY0 hB0 hz0
  refine wp_region_held (S := (fun w' : World => w'.cell? ⟨w.heap.size, 4, none⟩ = some (.slice TA tn tc) ∧ w'.cell? ⟨w.heap.size, 5, none⟩ = some (.slice A m c))) (by kernel_rfl) ?_
  change wpAnyH _ _ _ _ _ _ _ _ ws.drew
  have HSW : (fun w' : World => w'.cell? ⟨w.heap.size, 4, none⟩ = some (.slice TA tn tc) ∧ w'.cell? ⟨w.heap.size, 5, none⟩ = some (.slice A m c)) ws.drew := ⟨HX0.out.cell (j := 4) rfl, HX0.out.cell (j := 5) rfl⟩
  refine held_take (i := 0) (v := .pointer (some ⟨w.heap.size, 4, none⟩)) rfl (by kernel_rfl) (by kernel_rfl) (by kernel_rfl) (fun _ _ _ h => h) rfl (fun _ hS => by obtain ⟨e1, e2⟩ := hS; go_simp) HSW ?_
  simp only [Act.put, List.setIfInBounds_toArray, List.set_cons_succ, List.set_cons_zero, List.getElem_toArray, List.getElem_cons_succ, List.getElem_cons_zero]
  refine held_take (i := 1) (v := .slice TA tn tc) rfl (by kernel_rfl) (by kernel_rfl) (by kernel_rfl) (fun _ _ _ h => h) rfl (fun _ hS => by obtain ⟨e1, e2⟩ := hS; go_simp) HSW ?_
  simp only [Act.put, List.setIfInBounds_toArray, List.set_cons_succ, List.set_cons_zero, List.getElem_toArray, List.getElem_cons_succ, List.getElem_cons_zero]
  refine held_take (i := 3) (v := .pointer (some ⟨w.heap.size, 5, none⟩)) rfl (by kernel_rfl) (by kernel_rfl) (by kernel_rfl) (fun _ _ _ h => h) rfl (fun _ hS => by obtain ⟨e1, e2⟩ := hS; go_simp) HSW ?_
  simp only [Act.put, List.setIfInBounds_toArray, List.set_cons_succ, List.set_cons_zero, List.getElem_toArray, List.getElem_cons_succ, List.getElem_cons_zero]
  refine held_take (i := 4) (v := .slice A m c) rfl (by kernel_rfl) (by kernel_rfl) (by kernel_rfl) (fun _ _ _ h => h) rfl (fun _ hS => by obtain ⟨e1, e2⟩ := hS; go_simp) HSW ?_
  simp only [Act.put, List.setIfInBounds_toArray, List.set_cons_succ, List.set_cons_zero, List.getElem_toArray, List.getElem_cons_succ, List.getElem_cons_zero]
  have hdr : Below ws.heap.size ws ws.drew := (Below.refl _ _).drew
  refine held_call (i := 2) (by kernel_rfl) rfl rfl rfl (enters_of Try.func39 (by kernel_rfl) rfl) [.slice TA tn tc] rfl (told_open (F := Sn (w.heap.size + 2) S) (HP.out.stay (.beneath (HB0.out.trans (hdr.mono HB0.out.size)) (fun b _ h => HS.out b h) fun _ _ h => .inl h))) ?_
  rintro e w2 ⟨A2, d2, zt, rfl, hvt, hrow2, hB2⟩
  have hB2' : Below ws.heap.size ws w2 := hdr.trans hB2
  have hX2 := HX0.out.below hB2' HX0.out.lt
  have HSW2 : (fun w' : World => w'.cell? ⟨w.heap.size, 4, none⟩ = some (.slice TA tn tc) ∧ w'.cell? ⟨w.heap.size, 5, none⟩ = some (.slice A m c)) w2 := ⟨hX2.cell (j := 4) rfl, hX2.cell (j := 5) rfl⟩
  refine ⟨_, rfl, HSW2, ?_⟩
  simp only [Act.put, List.setIfInBounds_toArray, List.set_cons_succ, List.set_cons_zero, List.getElem_toArray, List.getElem_cons_succ, List.getElem_cons_zero]
  obtain ⟨F2, hF2⟩ : ∃ F2 : Nat → Prop, F2 = fun b => Sn (w.heap.size + 2) S b ∧ (Value.slice A2 zt.length d2).ownBlock ≠ some b := ⟨_, rfl⟩
  have hF2o : ∀ (W : World), w2.heap.size ≤ W.heap.size → ∀ b, W.heap.size ≤ b → F2 b := fun W hW b hb => by
    rw [hF2]
    exact ⟨.inr (by have := HZ0.out; have := hB2'.size; omega), fun e => by have := (hrow2.low b e).2; omega⟩
  have hK2 : RdF w2 F2 A m c ks := HK.out.stay (.beneath (HB0.out.trans (hB2'.mono HB0.out.size)) (fun b _ h => HS.out b h) fun b _ h => by
    rw [hF2]
    refine ⟨.inl h, fun e => ?_⟩
    have h1 : ws.heap.size ≤ b := (hrow2.low b e).1
    have := HS.out b h; have := HB0.out.size; omega)
  refine held_call (i := 5) (by kernel_rfl) rfl rfl rfl (enters_of Try.func41 (by kernel_rfl) rfl) [.slice A m c] rfl (row_open (F := F2) (row41_any (rsizeL ks + 1)) (Nat.lt_succ_self _) HT.out (hF2o w2 (Nat.le_refl _)) hK2) ?_
  rintro e w3 ⟨A3, n3, c3, rfl, hR3, hB3⟩
  have hX3 := hX2.below hB3 hX2.lt
  have HSW3 : (fun w' : World => w'.cell? ⟨w.heap.size, 4, none⟩ = some (.slice TA tn tc) ∧ w'.cell? ⟨w.heap.size, 5, none⟩ = some (.slice A m c)) w3 := ⟨hX3.cell (j := 4) rfl, hX3.cell (j := 5) rfl⟩
  refine ⟨_, rfl, HSW3, ?_⟩
  simp only [Act.put, List.setIfInBounds_toArray, List.set_cons_succ, List.set_cons_zero, List.getElem_toArray, List.getElem_cons_succ, List.getElem_cons_zero]
  refine held_call (i := 6) (by kernel_rfl) rfl rfl rfl (enters_of Try.func40 (by kernel_rfl) rfl) [.string sDoc, .slice A3 n3 c3] rfl (fit_open (F := F2) (fitP sDoc (by rw [kdDoc]; simp [Par])) HKG.out (by have := hR3.length; have := HKL.out; omega) (hF2o w3 hB3.size) hR3) ?_
  rintro e w4 ⟨A4, n4, c4, rfl, hR4, hB4⟩
  have hX4 := hX3.below hB4 hX3.lt
  have HSW4 : (fun w' : World => w'.cell? ⟨w.heap.size, 4, none⟩ = some (.slice TA tn tc) ∧ w'.cell? ⟨w.heap.size, 5, none⟩ = some (.slice A m c)) w4 := ⟨hX4.cell (j := 4) rfl, hX4.cell (j := 5) rfl⟩
  refine ⟨_, rfl, HSW4, ?_⟩
  simp only [Act.put, List.setIfInBounds_toArray, List.set_cons_succ, List.set_cons_zero, List.getElem_toArray, List.getElem_cons_succ, List.getElem_cons_zero]
  rw [kdDoc] at hR4
  have hrow4 := (hrow2.below hB3).below hB4
  obtain ⟨z4, hz4, hZ4⟩ := hR4.z
  have hztl : zt.length ≤ 1 := by have := toldT_len tx; rw [← hvt, vz_len] at this; exact this
  have hz4l : z4.length ≤ 500000 := by
    have h1 := outOf_len .doc (runsBy (fun t => srt .doc t.kdOf) (rowT ks)) fun q hq => (runsBy_all _ _ q hq).1
    rw [runsBy_flat] at h1
    have h2 := HKL.out
    rw [← vz_len, hz4, fitT_out]
    omega
  have hn24 : ws.drew.heap.size ≤ w4.heap.size := Nat.le_trans hB2.size (Nat.le_trans hB3.size hB4.size)
  refine held_one (i := 7) (by kernel_rfl) rfl rfl (wp_rows (.tmp 6) (.tmp 10) rfl rfl hrow4 rfl hZ4 (fun b _ h => by
    rw [hF2] at h
    refine ⟨?_, h.2⟩
    rcases Nat.lt_or_ge b ws.drew.heap.size with h1 | h1
    · exact .inl ⟨h.1, h1⟩
    · exact .inr h1) (by omega) hn24 ?_)
  intro A5 c5 w5 hrow5 hg5 hat5
  have hB5 : Below ws.heap.size w4 w5 := hrow4.grown_below hg5 hn24
  have hX5 := hX4.below hB5 HX0.out.lt
  have HSW5 : (fun w' : World => w'.cell? ⟨w.heap.size, 4, none⟩ = some (.slice TA tn tc) ∧ w'.cell? ⟨w.heap.size, 5, none⟩ = some (.slice A m c)) w5 := ⟨hX5.cell (j := 4) rfl, hX5.cell (j := 5) rfl⟩
  refine ⟨HSW5, ?_⟩
  simp only [Act.put, List.setIfInBounds_toArray, List.set_cons_succ, List.set_cons_zero, List.getElem_toArray, List.getElem_cons_succ, List.getElem_cons_zero]
  refine held_take (i := 8) (v := .slice A5 (zt.length + z4.length) c5) rfl (by kernel_rfl) (by kernel_rfl) (by kernel_rfl) (fun _ _ _ h => h) rfl (fun _ hS => by obtain ⟨e1, e2⟩ := hS; go_simp) HSW5 ?_
  simp only [Act.put, List.setIfInBounds_toArray, List.set_cons_succ, List.set_cons_zero, List.getElem_toArray, List.getElem_cons_succ, List.getElem_cons_zero]
  refine wpAnyH_done (by kernel_rfl) ?_ _
  have hR5 : RdF w5 (Sn (w.heap.size + 2) S) A5 (zt.length + z4.length) c5 (toldT tx ++ fitT .doc (rowT ks)) := by
    have := hrow5.rd (S' := Sn (w.heap.size + 2) S) fun b _ h => h.elim (fun h => h.1) (fun h => .inr (Nat.le_trans HZ0.out h))
    rwa [vz_append, hvt, hz4] at this
  have hBa : Below ws.heap.size ws w5 := hB2'.trans ((hB3.mono hB2'.size).trans ((hB4.mono (Nat.le_trans hB2'.size hB3.size)).trans hB5))
  have hY5 := HY0.out.below hBa HY0.out.lt
  have HX5 := Lib.hid hX5
  have HY5 := Lib.hid hY5
  have HR5 := Lib.hid hR5
  have HB5 := Lib.hid (HB0.out.trans (hBa.mono HB0.out.size))
  have xc0 : w5.cell? ⟨w.heap.size, 0, none⟩ = some (.int .i64 n) := hX5.cell (j := 0) rfl
  have xc1 : w5.cell? ⟨w.heap.size, 1, none⟩ = some (.int .i64 r) := hX5.cell (j := 1) rfl
  have xc2 : w5.cell? ⟨w.heap.size, 2, none⟩ = some (.string k) := hX5.cell (j := 2) rfl
  have xc3 : w5.cell? ⟨w.heap.size, 3, none⟩ = some (.slice AA an ac) := hX5.cell (j := 3) rfl
  have xc4 : w5.cell? ⟨w.heap.size, 4, none⟩ = some (.slice TA tn tc) := hX5.cell (j := 4) rfl
  have xc5 : w5.cell? ⟨w.heap.size, 5, none⟩ = some (.slice A m c) := hX5.cell (j := 5) rfl
  have xf : ∀ jj, w5.frozen? ⟨w.heap.size, jj, none⟩ = false := fun jj => hX5.frozen
  have yc0 : w5.cell? ⟨w.heap.size + 1, 0, none⟩ = some (.int .i64 0) := hY5.cell (j := 0) rfl
  have yc1 : w5.cell? ⟨w.heap.size + 1, 1, none⟩ = some (.int .i64 0) := hY5.cell (j := 1) rfl
  have yc2 : w5.cell? ⟨w.heap.size + 1, 2, none⟩ = some (.string ⟨#[]⟩) := hY5.cell (j := 2) rfl
  have yc3 : w5.cell? ⟨w.heap.size + 1, 3, none⟩ = some (.slice none 0 0) := hY5.cell (j := 3) rfl
  have yc4 : w5.cell? ⟨w.heap.size + 1, 4, none⟩ = some (.slice none 0 0) := hY5.cell (j := 4) rfl
  have yc5 : w5.cell? ⟨w.heap.size + 1, 5, none⟩ = some (.slice none 0 0) := hY5.cell (j := 5) rfl
  have yf : ∀ jj, w5.frozen? ⟨w.heap.size + 1, jj, none⟩ = false := fun jj => hY5.frozen
  clear HSW HSW2 HSW3 HSW4 HSW5 hX2 hX3 hX4 hX5 hY5 hBa hB2 hB2' hB3 hB4 hB5 hR3 hR4 hR5 hK2 hrow2 hrow4 hrow5 hg5 hat5 hZ4 hdr hF2o hF2 hvt hz4
  go_wp2_with fail
  have hfin : NdF (six w5 (w.heap.size + 1) 0 (.int .i64 n) (.int .i64 r) (.string sDoc) (.slice AA an ac) (.slice none 0 0) (.slice A5 (zt.length + z4.length) c5)) (Sn w.heap.size S) [.int .i64 n, .int .i64 r, .string sDoc, .slice AA an ac, .slice none 0 0, .slice A5 (zt.length + z4.length) c5] (.node n r sDoc at_ [] (toldT tx ++ fitT .doc (rowT ks))) := by
    have hb6 : Below w.heap.size w (six w5 (w.heap.size + 1) 0 (.int .i64 n) (.int .i64 r) (.string sDoc) (.slice AA an ac) (.slice none 0 0) (.slice A5 (zt.length + z4.length) c5)) := HB5.out.trans (six_below (by omega) _ _ _ _ _ _)
    exact NdF.node (HA.out.stay (.beneath hb6 (fun b _ h => HS.out b h) fun _ _ h => .inl h)) (RdP.nil _ _) (HR5.out.stay (six_stay _ _ _ _ _ _ (fun b h => (sn_ne2 HS.out b h).2) sn_more2))
  exact bodyPost_ret (ret_node rfl _ _ (w.heap.size + 1) _ rfl (HY5.out.six _ _ _ _ _ _) rfl) rfl ⟨_, rfl, hfin, HB5.out.trans (six_below (by omega) _ _ _ _ _ _)⟩

set_option maxRecDepth 100000 in
set_option maxHeartbeats 2000000 in
theorem repair29_any (t : RT) (ht : rsize t ≤ 100000) (w : World) (S : Nat → Prop) (v : List Value) (hS : ∀ b, S b → b < w.heap.size) (hv : NdF w S v t) : Calls Try.prog 29 #[.agg v.toArray] w (GivesN w S (repairT t)) := by
  obtain ⟨n, r, k, AA, an, ac, TA, tn, tc, A, m, c, at_, tx, ks, rfl, rfl, ha, hp, hks⟩ := hv.parts
  rw [rsize] at ht
  have hX0 := (BoxN.made w #[.int .i64 n, .int .i64 r, .string k, .slice AA an ac, .slice TA tn tc, .slice A m c] 31).alloc (.cells #[.int .i64 0, .int .i64 0, .string ⟨#[]⟩, .slice none 0 0, .slice none 0 0, .slice none 0 0] 31)
  have hY0 := BoxN.made (w.alloc (.cells #[.int .i64 n, .int .i64 r, .string k, .slice AA an ac, .slice TA tn tc, .slice A m c] 31)) #[.int .i64 0, .int .i64 0, .string ⟨#[]⟩, .slice none 0 0, .slice none 0 0, .slice none 0 0] 31
  rw [World.size_alloc] at hY0
  have hB0 : Below w.heap.size w ((w.alloc (.cells #[.int .i64 n, .int .i64 r, .string k, .slice AA an ac, .slice TA tn tc, .slice A m c] 31)).alloc (.cells #[.int .i64 0, .int .i64 0, .string ⟨#[]⟩, .slice none 0 0, .slice none 0 0, .slice none 0 0] 31)) := blOn (blAl _) _
  have hz0 : w.heap.size + 2 ≤ ((w.alloc (.cells #[.int .i64 n, .int .i64 r, .string k, .slice AA an ac, .slice TA tn tc, .slice A m c] 31)).alloc (.cells #[.int .i64 0, .int .i64 0, .string ⟨#[]⟩, .slice none 0 0, .slice none 0 0, .slice none 0 0] 31)).heap.size := by simp
  have HS := Lib.hid hS
  have HA := Lib.hid ha
  have HP := Lib.hid hp
  have HK := Lib.hid hks
  have HKG := Lib.hid (rowT_good ks)
  have HKL : Hid ((rowT ks).length ≤ 500000) := Lib.hid (Nat.le_trans (rowT_len ks) (by omega))
  have HT : Hid (rsizeL ks ≤ 100000) := Lib.hid (by omega)
  clear hS ha hp hks hv ht
  go_enter Try.func29, Try.ntmps29
  go_wp2_with fail
  generalize ((w.alloc (.cells #[.int .i64 n, .int .i64 r, .string k, .slice AA an ac, .slice TA tn tc, .slice A m c] 31)).alloc (.cells #[.int .i64 0, .int .i64 0, .string ⟨#[]⟩, .slice none 0 0, .slice none 0 0, .slice none 0 0] 31)) = ws at *
  have HX0 := Lib.hid hX0
  have HY0 := Lib.hid hY0
  have HB0 := Lib.hid hB0
  have HZ0 := Lib.hid hz0
  clear hX0 hY0 hB0 hz0
  refine wp_region_held (S := (fun w' : World => w'.cell? ⟨w.heap.size, 0, none⟩ = some (.int .i64 n) ∧ w'.cell? ⟨w.heap.size, 1, none⟩ = some (.int .i64 r) ∧ w'.cell? ⟨w.heap.size, 3, none⟩ = some (.slice AA an ac) ∧ w'.cell? ⟨w.heap.size, 4, none⟩ = some (.slice TA tn tc) ∧ w'.cell? ⟨w.heap.size, 5, none⟩ = some (.slice A m c))) (by kernel_rfl) ?_
  change wpAnyH _ _ _ _ _ _ _ _ ws.drew
  have HSW : (fun w' : World => w'.cell? ⟨w.heap.size, 0, none⟩ = some (.int .i64 n) ∧ w'.cell? ⟨w.heap.size, 1, none⟩ = some (.int .i64 r) ∧ w'.cell? ⟨w.heap.size, 3, none⟩ = some (.slice AA an ac) ∧ w'.cell? ⟨w.heap.size, 4, none⟩ = some (.slice TA tn tc) ∧ w'.cell? ⟨w.heap.size, 5, none⟩ = some (.slice A m c)) ws.drew := ⟨HX0.out.cell (j := 0) rfl, HX0.out.cell (j := 1) rfl, HX0.out.cell (j := 3) rfl, HX0.out.cell (j := 4) rfl, HX0.out.cell (j := 5) rfl⟩
  refine held_take (i := 0) (v := .pointer (some ⟨w.heap.size, 0, none⟩)) rfl (by kernel_rfl) (by kernel_rfl) (by kernel_rfl) (fun _ _ _ h => h) rfl (fun _ hS => by obtain ⟨e0, e1, e3, e4, e5⟩ := hS; go_simp) HSW ?_
  simp only [Act.put, List.setIfInBounds_toArray, List.set_cons_succ, List.set_cons_zero, List.getElem_toArray, List.getElem_cons_succ, List.getElem_cons_zero]
  refine held_take (i := 1) (v := .agg #[.int .i64 n, .int .i64 r]) rfl (by kernel_rfl) (by kernel_rfl) (by kernel_rfl) (fun _ _ _ h => h) rfl (fun _ hS => by obtain ⟨e0, e1, e3, e4, e5⟩ := hS; go_simp) HSW ?_
  simp only [Act.put, List.setIfInBounds_toArray, List.set_cons_succ, List.set_cons_zero, List.getElem_toArray, List.getElem_cons_succ, List.getElem_cons_zero]
  refine held_take (i := 2) (v := .pointer (some ⟨w.heap.size, 3, none⟩)) rfl (by kernel_rfl) (by kernel_rfl) (by kernel_rfl) (fun _ _ _ h => h) rfl (fun _ hS => by obtain ⟨e0, e1, e3, e4, e5⟩ := hS; go_simp) HSW ?_
  simp only [Act.put, List.setIfInBounds_toArray, List.set_cons_succ, List.set_cons_zero, List.getElem_toArray, List.getElem_cons_succ, List.getElem_cons_zero]
  refine held_take (i := 3) (v := .slice AA an ac) rfl (by kernel_rfl) (by kernel_rfl) (by kernel_rfl) (fun _ _ _ h => h) rfl (fun _ hS => by obtain ⟨e0, e1, e3, e4, e5⟩ := hS; go_simp) HSW ?_
  simp only [Act.put, List.setIfInBounds_toArray, List.set_cons_succ, List.set_cons_zero, List.getElem_toArray, List.getElem_cons_succ, List.getElem_cons_zero]
  refine held_take (i := 4) (v := .pointer (some ⟨w.heap.size, 4, none⟩)) rfl (by kernel_rfl) (by kernel_rfl) (by kernel_rfl) (fun _ _ _ h => h) rfl (fun _ hS => by obtain ⟨e0, e1, e3, e4, e5⟩ := hS; go_simp) HSW ?_
  simp only [Act.put, List.setIfInBounds_toArray, List.set_cons_succ, List.set_cons_zero, List.getElem_toArray, List.getElem_cons_succ, List.getElem_cons_zero]
  refine held_take (i := 5) (v := .slice TA tn tc) rfl (by kernel_rfl) (by kernel_rfl) (by kernel_rfl) (fun _ _ _ h => h) rfl (fun _ hS => by obtain ⟨e0, e1, e3, e4, e5⟩ := hS; go_simp) HSW ?_
  simp only [Act.put, List.setIfInBounds_toArray, List.set_cons_succ, List.set_cons_zero, List.getElem_toArray, List.getElem_cons_succ, List.getElem_cons_zero]
  refine held_take (i := 6) (v := .pointer (some ⟨w.heap.size, 5, none⟩)) rfl (by kernel_rfl) (by kernel_rfl) (by kernel_rfl) (fun _ _ _ h => h) rfl (fun _ hS => by obtain ⟨e0, e1, e3, e4, e5⟩ := hS; go_simp) HSW ?_
  simp only [Act.put, List.setIfInBounds_toArray, List.set_cons_succ, List.set_cons_zero, List.getElem_toArray, List.getElem_cons_succ, List.getElem_cons_zero]
  refine held_take (i := 7) (v := .slice A m c) rfl (by kernel_rfl) (by kernel_rfl) (by kernel_rfl) (fun _ _ _ h => h) rfl (fun _ hS => by obtain ⟨e0, e1, e3, e4, e5⟩ := hS; go_simp) HSW ?_
  simp only [Act.put, List.setIfInBounds_toArray, List.set_cons_succ, List.set_cons_zero, List.getElem_toArray, List.getElem_cons_succ, List.getElem_cons_zero]
  have hdr : Below ws.heap.size ws ws.drew := (Below.refl _ _).drew
  have hF : ∀ b, ws.heap.size ≤ b → Sn (w.heap.size + 2) S b := fun b h => .inr (Nat.le_trans HZ0.out h)
  have hK2 : RdF ws.drew (Sn (w.heap.size + 2) S) A m c ks := HK.out.stay (.beneath (HB0.out.trans (hdr.mono HB0.out.size)) (fun b _ h => HS.out b h) fun b _ h => .inl h)
  refine held_call (i := 8) (by kernel_rfl) rfl rfl rfl (enters_of Try.func44 (by kernel_rfl) rfl) [.slice A m c] rfl (row_open (F := Sn (w.heap.size + 2) S) (row44_any (rsizeL ks + 1)) (Nat.lt_succ_self _) HT.out hF hK2) ?_
  rintro e w3 ⟨A3, n3, c3, rfl, hR3, hB3'⟩
  have hB3 : Below ws.heap.size ws w3 := hdr.trans hB3'
  have hX3 := HX0.out.below hB3 HX0.out.lt
  have HSW3 : (fun w' : World => w'.cell? ⟨w.heap.size, 0, none⟩ = some (.int .i64 n) ∧ w'.cell? ⟨w.heap.size, 1, none⟩ = some (.int .i64 r) ∧ w'.cell? ⟨w.heap.size, 3, none⟩ = some (.slice AA an ac) ∧ w'.cell? ⟨w.heap.size, 4, none⟩ = some (.slice TA tn tc) ∧ w'.cell? ⟨w.heap.size, 5, none⟩ = some (.slice A m c)) w3 := ⟨hX3.cell (j := 0) rfl, hX3.cell (j := 1) rfl, hX3.cell (j := 3) rfl, hX3.cell (j := 4) rfl, hX3.cell (j := 5) rfl⟩
  refine ⟨_, rfl, HSW3, ?_⟩
  simp only [Act.put, List.setIfInBounds_toArray, List.set_cons_succ, List.set_cons_zero, List.getElem_toArray, List.getElem_cons_succ, List.getElem_cons_zero]
  refine held_call (i := 9) (by kernel_rfl) rfl rfl rfl (enters_of Try.func43 (by kernel_rfl) rfl) [.string sDoc, .slice A3 n3 c3] rfl (fit_open (F := Sn (w.heap.size + 2) S) (fitR sDoc (by rw [kdDoc]; simp [Par])) HKG.out (by have := hR3.length; have := HKL.out; omega) (fun b h => hF b (Nat.le_trans hB3.size h)) hR3) ?_
  rintro e w4 ⟨A4, n4, c4, rfl, hR4, hB4'⟩
  have hB4 : Below ws.heap.size ws w4 := hB3.trans (hB4'.mono hB3.size)
  have hX4 := HX0.out.below hB4 HX0.out.lt
  have HSW4 : (fun w' : World => w'.cell? ⟨w.heap.size, 0, none⟩ = some (.int .i64 n) ∧ w'.cell? ⟨w.heap.size, 1, none⟩ = some (.int .i64 r) ∧ w'.cell? ⟨w.heap.size, 3, none⟩ = some (.slice AA an ac) ∧ w'.cell? ⟨w.heap.size, 4, none⟩ = some (.slice TA tn tc) ∧ w'.cell? ⟨w.heap.size, 5, none⟩ = some (.slice A m c)) w4 := ⟨hX4.cell (j := 0) rfl, hX4.cell (j := 1) rfl, hX4.cell (j := 3) rfl, hX4.cell (j := 4) rfl, hX4.cell (j := 5) rfl⟩
  refine ⟨_, rfl, HSW4, ?_⟩
  simp only [Act.put, List.setIfInBounds_toArray, List.set_cons_succ, List.set_cons_zero, List.getElem_toArray, List.getElem_cons_succ, List.getElem_cons_zero]
  rw [kdDoc] at hR4
  have hn4 : n4 ≤ 500000 := by
    have h1 := outOf_len .doc (runsBy (fun t => srt .doc t.kdOf) (rowT ks)) fun q hq => (runsBy_all _ _ q hq).1
    rw [runsBy_flat] at h1
    have h2 := HKL.out
    rw [← hR4.length, fitT_out]
    omega
  refine held_call (i := 10) (by kernel_rfl) rfl rfl rfl (enters_of Try.func42 (by kernel_rfl) rfl) [.slice TA tn tc, .slice A4 n4 c4] rfl (ahead_open (F := Sn (w.heap.size + 2) S) (by omega) (fun b h => hF b (Nat.le_trans hB4.size h)) (HP.out.stay (.beneath (HB0.out.trans (hB4.mono HB0.out.size)) (fun b _ h => HS.out b h) fun _ _ h => .inl h)) hR4) ?_
  rintro e w5 ⟨A5, n5, c5, rfl, hR5, hB5'⟩
  have hB5 : Below ws.heap.size ws w5 := hB4.trans (hB5'.mono hB4.size)
  have hX5 := HX0.out.below hB5 HX0.out.lt
  have hY5 := HY0.out.below hB5 HY0.out.lt
  have HSW5 : (fun w' : World => w'.cell? ⟨w.heap.size, 0, none⟩ = some (.int .i64 n) ∧ w'.cell? ⟨w.heap.size, 1, none⟩ = some (.int .i64 r) ∧ w'.cell? ⟨w.heap.size, 3, none⟩ = some (.slice AA an ac) ∧ w'.cell? ⟨w.heap.size, 4, none⟩ = some (.slice TA tn tc) ∧ w'.cell? ⟨w.heap.size, 5, none⟩ = some (.slice A m c)) w5 := ⟨hX5.cell (j := 0) rfl, hX5.cell (j := 1) rfl, hX5.cell (j := 3) rfl, hX5.cell (j := 4) rfl, hX5.cell (j := 5) rfl⟩
  refine ⟨_, rfl, HSW5, ?_⟩
  simp only [Act.put, List.setIfInBounds_toArray, List.set_cons_succ, List.set_cons_zero, List.getElem_toArray, List.getElem_cons_succ, List.getElem_cons_zero]
  refine held_take (i := 11) (v := .agg #[.int .i64 n, .int .i64 r, .string sDoc, .slice AA an ac, .slice none 0 0, .slice A5 n5 c5]) rfl (by kernel_rfl) (by kernel_rfl) (by kernel_rfl) (fun _ _ _ h => h) rfl (fun _ hS => by obtain ⟨e0, e1, e3, e4, e5⟩ := hS; go_simp) HSW5 ?_
  simp only [Act.put, List.setIfInBounds_toArray, List.set_cons_succ, List.set_cons_zero, List.getElem_toArray, List.getElem_cons_succ, List.getElem_cons_zero]
  have HX5 := Lib.hid hX5
  have HY5 := Lib.hid hY5
  have HR5 := Lib.hid hR5
  have HB5 := Lib.hid (HB0.out.trans (hB5.mono HB0.out.size))
  have yc0 : w5.cell? ⟨w.heap.size + 1, 0, none⟩ = some (.int .i64 0) := hY5.cell (j := 0) rfl
  have yc1 : w5.cell? ⟨w.heap.size + 1, 1, none⟩ = some (.int .i64 0) := hY5.cell (j := 1) rfl
  have yc2 : w5.cell? ⟨w.heap.size + 1, 2, none⟩ = some (.string ⟨#[]⟩) := hY5.cell (j := 2) rfl
  have yc3 : w5.cell? ⟨w.heap.size + 1, 3, none⟩ = some (.slice none 0 0) := hY5.cell (j := 3) rfl
  have yc4 : w5.cell? ⟨w.heap.size + 1, 4, none⟩ = some (.slice none 0 0) := hY5.cell (j := 4) rfl
  have yc5 : w5.cell? ⟨w.heap.size + 1, 5, none⟩ = some (.slice none 0 0) := hY5.cell (j := 5) rfl
  have yf : ∀ jj, w5.frozen? ⟨w.heap.size + 1, jj, none⟩ = false := fun jj => hY5.frozen
  clear HSW HSW3 HSW4 HSW5 hX3 hX4 hX5 hY5 hB3 hB3' hB4 hB4' hB5 hB5' hR3 hR4 hR5 hK2 hdr hF
  refine held_one (i := 12) (by kernel_rfl) rfl rfl ?_
  simp only [Act.put, List.setIfInBounds_toArray, List.set_cons_succ, List.set_cons_zero, List.getElem_toArray, List.getElem_cons_succ, List.getElem_cons_zero]
  go_simp
  refine ⟨⟨HX5.out.cell (j := 0) rfl, HX5.out.cell (j := 1) rfl, HX5.out.cell (j := 3) rfl, HX5.out.cell (j := 4) rfl, HX5.out.cell (j := 5) rfl⟩, ?_⟩
  refine wpAnyH_done (by kernel_rfl) ?_ _
  go_wp2_with fail
  have hfin : NdF (six w5 (w.heap.size + 1) 0 (.int .i64 n) (.int .i64 r) (.string sDoc) (.slice AA an ac) (.slice none 0 0) (.slice A5 n5 c5)) (Sn w.heap.size S) [.int .i64 n, .int .i64 r, .string sDoc, .slice AA an ac, .slice none 0 0, .slice A5 n5 c5] (.node n r sDoc at_ [] (toldT tx ++ fitT .doc (rowT ks))) := by
    have hb6 : Below w.heap.size w (six w5 (w.heap.size + 1) 0 (.int .i64 n) (.int .i64 r) (.string sDoc) (.slice AA an ac) (.slice none 0 0) (.slice A5 n5 c5)) := HB5.out.trans (six_below (by omega) _ _ _ _ _ _)
    exact NdF.node (HA.out.stay (.beneath hb6 (fun b _ h => HS.out b h) fun _ _ h => .inl h)) (RdP.nil _ _) (HR5.out.stay (six_stay _ _ _ _ _ _ (fun b h => (sn_ne2 HS.out b h).2) sn_more2))
  exact bodyPost_ret (ret_node rfl _ _ (w.heap.size + 1) _ rfl (HY5.out.six _ _ _ _ _ _) rfl) rfl ⟨_, rfl, hfin, HB5.out.trans (six_below (by omega) _ _ _ _ _ _)⟩
end Go.Proofs.Ytcdhndhgainadaa

/-
  The contract of Count, exactly: the tree's size, or one more than is asked about.
-/
namespace Go.Proofs.Ytcdhndhgainadaa
open Go Go.RowKit
set_option linter.unusedVariables false

mutual
/-- how many nodes -/
def nsz : Tree → Nat
  | .node _ _ _ _ ks => 1 + nszL ks
def nszL : List Tree → Nat
  | [] => 0
  | t :: ts => nsz t + nszL ts
end
theorem nszL_take {ks : List Tree} {j : Nat} {u : Tree} (h : ks[j]? = some u) : nszL (ks.take (j + 1)) = nszL (ks.take j) + nsz u := by
  induction ks generalizing j with
  | nil => simp at h
  | cons t ts ih =>
    cases j with
    | zero => simp at h; subst h; simp [nszL]
    | succ j =>
      have := ih (j := j) (by simpa using h)
      simp [nszL, this]; omega
theorem nszL_le (ks : List Tree) (j : Nat) : nszL (ks.take j) ≤ nszL ks := by
  induction ks generalizing j with
  | nil => simp
  | cons t ts ih =>
    cases j with
    | zero => simp [nszL]
    | succ j => have := ih j; simp [nszL]; omega

set_option maxRecDepth 100000 in
set_option maxHeartbeats 4000000 in
theorem count_exact : ∀ (N : Nat) (t : Tree), tsz t < N → ∀ (v : List Value) (most : Int) (h0 : 0 ≤ most) (h1 : most ≤ 100000) (B : Nat) (w : World), Nd w B v t → B ≤ w.heap.size →
    Calls Try.prog 19 #[.agg v.toArray, .int .i64 most] w fun e w' => ∃ c : Int, e = .returned (.int .i64 c) ∧ 1 ≤ c ∧ c ≤ most + 1 ∧ (c ≤ most → c = nsz t) ∧ (nsz t ≤ most → c = nsz t) ∧ Below w.heap.size w w' := by
  intro N
  induction N with
  | zero => intro t h; omega
  | succ N ih =>
    intro t hN v most h0 h1 B w hNd hB
    cases hNd with
    | mk n r k AA an ac A c TA tn tc kc ks hk hkids hcap hmax htn =>
    obtain ⟨m, hm⟩ : ∃ m, ks.length = m := ⟨_, rfl⟩
    have HI := Lib.hid (fun (i : Nat) (u : Tree) (hu : ks[i]? = some u) (q : Int) (q0 : 0 ≤ q) (q1 : q ≤ 100000) (w1 : World) (h1 : Nd w1 B (kc i) u) (hB1 : B ≤ w1.heap.size) => ih u (by have := tree_size (n := n) (r := r) (k := k) (tn := tn) hu; omega) (kc i) q q0 q1 B w1 h1 hB1)
    have HK := Lib.hid hk
    have HKK := Lib.hid hkids
    have HM := Lib.hid hm
    rw [hm] at hcap ⊢
    have HTS : Hid (nsz (.node n r k tn ks) = 1 + nszL ks) := Lib.hid (by rw [nsz])
    clear ih hk hkids hN hm
    have HBB := Lib.hid hB
    clear hB
    have hS : NAt w #[.int .i64 n, .int .i64 r, .string k, .slice AA an ac, .slice TA tn tc, .slice A m c] (w.alloc (.cells #[.int .i64 n, .int .i64 r, .string k, .slice AA an ac, .slice TA tn tc, .slice A m c] 31)) :=
      ⟨(Below.refl _ w).alloc (Nat.le_refl _) _, BoxN.made _ _ _⟩
    have HS0 := Lib.hid hS
    clear hS
    go_enter Try.func19, Try.ntmps19
    go_wp2_with fail
    go_loopw [5, 6] (fun s i wr => ∃ (j : Nat) (kk : Int), j ≤ m ∧ s = .int .i64 kk ∧ 1 ≤ kk ∧ kk ≤ most + 1 ∧ Hid ((kk ≤ most → kk = 1 + nszL (ks.take j)) ∧ ((1 + nszL (ks.take j) : Int) ≤ most → kk = 1 + nszL (ks.take j))) ∧ i = .int .i64 j ∧ NAt w #[.int .i64 n, .int .i64 r, .string k, .slice AA an ac, .slice TA tn tc, .slice A m c] wr) (fun _ i _ => m - (intOf i).toNat)
    case atStart => exact ⟨0, 1, Nat.zero_le _, rfl, by omega, by omega, Lib.hid ⟨fun _ => by simp [nszL], fun _ => by simp [nszL]⟩, rfl, HS0.out⟩
    case round =>
      clear HS0
      obtain ⟨j, kk, hj, rfl, hk1, hk2, hk3, rfl, hS⟩ := hrel
      have hji : (0 : Int) ≤ (j : Int) := by omega
      have c5 : wr.cell? ⟨w.heap.size, 5, none⟩ = some (.slice A m c) := hS.node.cell (j := 5) rfl
      have HS := Lib.hid hS
      by_cases hlt : j < m
      · by_cases hle : kk ≤ most
        · obtain ⟨u, hu⟩ : ∃ u, ks[j]? = some u := ⟨ks[j]'(by rw [HM.out]; exact hlt), List.getElem?_eq_getElem _⟩
          have HUU := Lib.hid hu
          have hne : ks ≠ [] := by intro h; rw [h] at hu; simp at hu
          obtain ⟨b, off, rfl, hb, hcs⟩ := HK.out.resolve_left hne
          have hndk := HKK.out j u hu
          obtain ⟨kn, kr, kx, kAA, kan, kac, kTA, ktn, ktc, kA, km, kc2, hsix⟩ := hndk.six
          have hbw : b < w.heap.size := by have := HBB.out; omega
          have cc : ∀ jj v, (kc j)[jj]? = some v → wr.cell? ⟨b, off + j * 6 + jj, none⟩ = some v := fun jj v hv => by
            rw [Nat.add_assoc]
            exact (HS.out.below.cell (p := ⟨b, _, none⟩) hbw).trans (hcs j (by rw [HM.out]; exact hlt) jj v hv)
          rw [hsix] at cc
          have k0 : wr.cell? ⟨b, off + j * 6, none⟩ = some (.int .i64 kn) := cc 0 _ rfl
          have k1 : wr.cell? ⟨b, off + j * 6 + 1, none⟩ = some (.int .i64 kr) := cc 1 _ rfl
          have k2 : wr.cell? ⟨b, off + j * 6 + 2, none⟩ = some (.string kx) := cc 2 _ rfl
          have k3 : wr.cell? ⟨b, off + j * 6 + 3, none⟩ = some (.slice kAA kan kac) := cc 3 _ rfl
          have k4 : wr.cell? ⟨b, off + j * 6 + 4, none⟩ = some (.slice kTA ktn ktc) := cc 4 _ rfl
          have k5 : wr.cell? ⟨b, off + j * 6 + 5, none⟩ = some (.slice kA km kc2) := cc 5 _ rfl
          have HCALL := Lib.hid (HI.out j u hu (most - kk) (by omega) (by omega) wr)
          rw [hsix] at HCALL hndk
          have HNDK := Lib.hid (hndk.keep (w' := wr) (Nat.le_refl _) fun q hq => hS.below.cell (Nat.lt_of_lt_of_le hq HBB.out))
          have HSZ : Hid (B ≤ wr.heap.size) := Lib.hid (Nat.le_trans HBB.out hS.below.size)
          have hji2 : (j : Int) < (m : Int) := by omega
          have hwr : IntKind.wrap .i64 (most - kk) = most - kk := IntWalk.i64_in _ (by omega)
          clear cc hcs hndk hu hne hsix HKK HK HI hS
          go_wp2_with fail
          refine (HCALL.out HNDK.out HSZ.out).mono ?_
          rintro e w4 ⟨c4, rfl, hc1, hc2, hc3, hc4, hB4⟩
          have HK4 : Hid ((kk + c4 ≤ most → kk + c4 = 1 + nszL (ks.take (j + 1))) ∧ ((1 + nszL (ks.take (j + 1)) : Int) ≤ most → kk + c4 = 1 + nszL (ks.take (j + 1)))) := Lib.hid (by
            have h5 := hk3.out
            rw [nszL_take HUU.out]
            refine ⟨fun h => ?_, fun h => ?_⟩
            · have e1 := h5.1 hle
              have e2 := hc3 (by omega)
              omega
            · have e1 := h5.1 hle
              have e2 := hc4 (by omega)
              omega)
          clear hc3 hc4
          have HS4 : Hid (NAt w #[.int .i64 n, .int .i64 r, .string k, .slice AA an ac, .slice TA tn tc, .slice (some ⟨b, off, none⟩) m c] w4) := Lib.hid ⟨HS.out.below.trans (hB4.mono HS.out.below.size), HS.out.node.below hB4 HS.out.node.lt⟩
          have hwr2 : IntKind.wrap .i64 (kk + c4) = kk + c4 := IntWalk.i64_in _ (by omega)
          clear hB4 HS HCALL HNDK HSZ c5 k0 k1 k2 k3 k4 k5
          go_wp2_with fail
          go_roundw
          case rel => exact ⟨j + 1, kk + c4, by omega, by first | rfl | rw [hwr2], by omega, by omega, HK4, by go_num, HS4.out⟩
          case measure => simp [intOf]; omega
        · have hji2 : (j : Int) < (m : Int) := by omega
          go_wp2_with fail
          go_ret
          exact ⟨kk, rfl, hk1, hk2, fun h => by omega, fun h => by
            have h5 := hk3.out
            have h6 := nszL_le ks j
            rw [HTS.out] at h
            have := h5.2 (by omega)
            omega, HS.out.below⟩
      · obtain rfl : j = m := by omega
        clear hS
        by_cases hle : kk ≤ most
        all_goals
          go_wp2_with fail
          go_ret
          exact ⟨kk, rfl, hk1, hk2, fun h => by
            have h5 := hk3.out.1 h
            rw [List.take_of_length_le (by rw [HM.out]; exact Nat.le_refl _)] at h5
            rw [HTS.out, h5]; omega, fun h => by
            rw [HTS.out] at h
            have h5 := hk3.out.2
            rw [List.take_of_length_le (by rw [HM.out]; exact Nat.le_refl _)] at h5
            rw [HTS.out, h5 (by omega)]; omega, HS.out.below⟩
end Go.Proofs.Ytcdhndhgainadaa

/-
  large, alive; what the laws of Repair want of a tree.
-/
namespace Go.Proofs.Ytcdhndhgainadaa
open Go Go.RowKit
set_option linter.unusedVariables false
set_option linter.unusedSimpArgs false

mutual
theorem nsz_erase : ∀ t : RT, nsz (erase t) = rsize t
  | .node n r k a x ks => by rw [erase, nsz, rsize, nszL_erase ks]
theorem nszL_erase : ∀ ts : List RT, nszL (eraseL ts) = rsizeL ts
  | [] => by simp [eraseL, nszL, rsizeL]
  | t :: ts => by rw [eraseL, nszL, rsizeL, nsz_erase t, nszL_erase ts]
end
theorem count_r {t : RT} {v : List Value} {w : World} (hv : NdR w w.heap.size v t) (most : Int) (h0 : 0 ≤ most) (h1 : most ≤ 100000) :
    Calls Try.prog 19 #[.agg v.toArray, .int .i64 most] w fun e w' => ∃ c : Int, e = .returned (.int .i64 c) ∧ 1 ≤ c ∧ c ≤ most + 1 ∧ (c ≤ most → c = rsize t) ∧ ((rsize t : Int) ≤ most → c = rsize t) ∧ Below w.heap.size w w' := by
  have := count_exact (tsz (erase t) + 1) (erase t) (Nat.lt_succ_self _) v most h0 h1 w.heap.size w hv.nd (Nat.le_refl _)
  rwa [nsz_erase] at this

set_option maxRecDepth 100000 in
set_option maxHeartbeats 1000000 in
theorem large25_any {t : RT} {v : List Value} {w : World} (hv : NdR w w.heap.size v t) : Calls Try.prog 25 #[.agg v.toArray] w fun e w' => e = .returned (.bool (decide (300 < rsize t))) ∧ Below w.heap.size w w' := by
  have hcall := count_r (hv.beneath (w' := w.alloc (.cells v.toArray 31)) (blAl _) (by simp)) 300 (by decide) (by decide)
  obtain ⟨n, r, k, AA, an, ac, TA, tn, tc, A, m, c, at_, tx, ks, rfl, hP⟩ := hv.parts
  have HC := Lib.hid hcall
  clear hcall hv hP
  go_enter Try.func25, Try.ntmps25
  go_wp2_with fail
  refine HC.out.mono ?_
  rintro e w1 ⟨cc, rfl, h1, h2, h3, h4, hB⟩
  have HB := Lib.hid ((blAl (w := w) _).trans (hB.mono (by simp)))
  have HE : Hid (decide (300 < cc) = decide (300 < rsize t)) := Lib.hid (by
    rw [decide_eq_decide]
    constructor
    · intro h
      rcases Nat.lt_or_ge 300 (rsize t) with h5 | h5
      · exact h5
      · have := h4 (by omega); omega
    · intro h
      rcases Int.lt_or_le 300 cc with h5 | h5
      · exact h5
      · have := h3 h5; omega)
  clear h1 h2 h3 h4 hB HC
  go_wp2_with fail
  go_ret
  refine ⟨?_, HB.out⟩
  rw [← HE.out]
  rfl

def aliveT : RT := .node 0 0 sDoc [] [] [.node 3 0 sItem [] [] []]
theorem alive_repair : repairT aliveT = .node 0 0 sDoc [] [] [mk sList [.node 3 0 sItem [] [] []]] := by
  have h1 : rowT [.node 3 0 sItem [] [] []] = [.node 3 0 sItem [] [] []] := by
    rw [rowT_one, nodeT]
    unfold nodeK
    rw [kdItem]
    simp [rowT, fitT, runsBy]
  rw [aliveT, repairT, h1]
  simp [toldT, fitT, runsBy, RT.kdOf, RT.kind, kdItem, srt, Kd.allows, Kd.flow, wrapT, wrapF]

set_option maxRecDepth 100000 in
set_option maxHeartbeats 1000000 in
theorem alive26_any (w : World) : Calls Try.prog 26 #[] w fun e w' => e = .returned (.bool true) ∧ Below w.heap.size w w' := by
  have hin : NdF (w.alloc (.cells #[.int .i64 3, .int .i64 0, .string sItem, .slice none 0 0, .slice none 0 0, .slice none 0 0] 31)) (fun b => b < w.heap.size + 1) [.int .i64 0, .int .i64 0, .string sDoc, .slice none 0 0, .slice none 0 0, .slice (some ⟨w.heap.size, 0, none⟩) 1 1] aliveT :=
    NdF.node (RdA.nil _ _) (RdP.nil _ _) (RdF.one (w := w) (S := fun _ => False) (S' := fun b => b < w.heap.size + 1) #[.int .i64 3, .int .i64 0, .string sItem, .slice none 0 0, .slice none 0 0, .slice none 0 0] (.node 3 0 sItem [] [] []) (NdF.node (RdA.nil _ _) (RdP.nil _ _) (RdF.nil _ _)) (fun b _ h => h.elim) w.heap.size rfl (by show w.heap.size < w.heap.size + 1; omega))
  have HC := Lib.hid (repair28_any aliveT (by simp [aliveT, rsize, rsizeL]) _ _ _ (fun b h => by rw [World.size_alloc]; exact h) hin)
  clear hin
  go_enter Try.func26, Try.ntmps26
  go_wp2_with fail
  refine HC.out.mono ?_
  rintro e w1 ⟨v, rfl, hv, hB⟩
  rw [alive_repair] at hv
  obtain ⟨n, r, k, AA, an, ac, TA, tn, tc, A, m, c, at_, tx, ks, hve, ht, ha, hp, hks⟩ := hv.parts
  injection ht with e1 e2 e3 e4 e5 e6
  subst e1 e2 e3 e4 e5 e6
  have hv2 : v = #[.int .i64 0, .int .i64 0, .string sDoc, .slice AA an ac, .slice TA tn tc, .slice A m c] := by rw [← Array.toArray_toList (xs := v), hve]
  subst hv2
  have hm : m = 1 := hks.length.symm
  subst hm
  obtain ⟨b, off, t, u0, u1, u2, u3, u3n, u3c, u4, u4n, u4c, u5, u5n, u5c, rfl, hx, hb, -, hk, hnd, c0, c1, c2, c3, c4, c5⟩ := hks.nodeAt Nat.zero_lt_one
  simp at hx
  subst hx
  obtain ⟨n', r', k', AA', an', ac', TA', tn', tc', A', m', c', at_', tx', ks', hve', ht', ha', hp', hks'⟩ := hnd.parts
  injection ht' with e1 e2 e3 e4 e5 e6
  subst e1 e2 e3 e4 e5 e6
  simp only [List.cons.injEq, Value.int.injEq, Value.string.injEq, Value.slice.injEq, true_and, and_true] at hve'
  obtain ⟨rfl, rfl, rfl, ⟨rfl, rfl, rfl⟩, ⟨rfl, rfl, rfl⟩, ⟨rfl, rfl, rfl⟩⟩ := hve'
  have hm' : u5n = 1 := hks'.length.symm
  subst hm'
  obtain ⟨b', off', t', v0, v1, v2, v3, v3n, v3c, v4, v4n, v4c, v5, v5n, v5c, rfl, hx', hb', -, hk', hnd', d0, d1, d2, d3, d4, d5⟩ := hks'.nodeAt Nat.zero_lt_one
  simp at hx'
  subst hx'
  obtain ⟨n'', r'', k'', AA'', an'', ac'', TA'', tn'', tc'', A'', m'', c'', at_'', tx'', ks'', hve'', ht'', ha'', hp'', hks''⟩ := hnd'.parts
  injection ht'' with e1 e2 e3 e4 e5 e6
  subst e1 e2 e3 e4 e5 e6
  simp only [List.cons.injEq, Value.int.injEq, Value.string.injEq, Value.slice.injEq, true_and, and_true] at hve''
  obtain ⟨rfl, rfl, rfl, -, -, -⟩ := hve''
  rw [Nat.zero_mul, Nat.add_zero] at c0 c1 c2 c5 d0 d1
  have hB1 : Below w.heap.size w w1 := (blAl _).trans (hB.mono (by simp))
  have HB1 := Lib.hid hB1
  have hne1 : ¬ b = w1.heap.size := by omega
  have hne2 : ¬ b' = w1.heap.size := by omega
  clear hv hve ha hp hks hnd ha' hp' hks' hnd' ha'' hp'' hks'' hB hB1 HC hk hk' c3 c4 d2 d3 d4 d5
  go_wp2_with fail
  go_ret
  exact ⟨rfl, blOn HB1.out _⟩
end Go.Proofs.Ytcdhndhgainadaa
