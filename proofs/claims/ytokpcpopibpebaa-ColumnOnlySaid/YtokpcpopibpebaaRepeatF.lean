/-
  The contracts of slices.Repeat, of a slice of one value.
-/
import Derived.Test.YtokpcpopibpebaaMulF
import Derived.Test.YtokpcpopibpebaaSame4F
import Derived.Laws.CopyOwn
import Derived.Laws.MakeOwn
import Derived.Deep.RegionLaw
namespace Go.Proofs.Ytokpcpopibpebaa
open Go Go.RowKit
set_option linter.unusedVariables false
set_option linter.unusedSimpArgs false

theorem info4 : (Try.prog.info? 4).map (fun i => (i.zero, i.size, i.bytes)) = some (some (.bool false), 1, 1) := by kernel_rfl
theorem size3 : (Try.prog.info? 3).map (·.size) = some 1 := by kernel_rfl
theorem size4 : (Try.prog.info? 4).map (·.size) = some 1 := by kernel_rfl

theorem wp_copy {P : Program} {o : Oper} {a : Act} {w : World} {K : Act → World → Prop} {Q : Exit → Act → World → Prop} (hgd : o.guard = none) (d s : Operand) (dT sT : TypeId)
    (ho : o.op = .call { callee := .builtin .copy, args := #[d, s], argTypes := #[dT, sT] }) (elem : TypeId) (hu : P.underlying dT = some (.slice elem)) (hsz : (P.info? elem).map (·.size) = some 1)
    (dp sp : Option Addr) (dLen dCap sLen sCap : Nat) (hd : a.eval d = .slice dp dLen dCap) (hs : a.eval s = .slice sp sLen sCap)
    (g off : Nat) (cur : List Value) (t : TypeId) (hg : w.heap[g]? = some (.cells cur.toArray t (0, 0))) (cs : List Value) (hn : cs.length = Nat.min sLen dLen)
    (hpos : 0 < cs.length → dp = some ⟨g, off, none⟩ ∧ ∃ ad, sp = some ad ∧ ∀ j v, cs[j]? = some v → w.cell? (ad.add j) = some v)
    (hfit : off + cs.length ≤ cur.length) (h1 : ∀ v ∈ cs, v.oneCell' = true) (B : Nat) (w0 : World) (hb : Below B w0 w) (hBg : B ≤ g)
    (h : ∀ w', Hid (w'.heap[g]? = some (.cells (splice cur off cs).toArray t (0, 0))) → Below B w0 w' → K (a.put o.dst (goInt cs.length)) w') : o.wp P a w K Q := by
  have := step_copy_splice (P := P) (ops := #[]) (o := o) (a := a) (w := w) (K := K) (Q := Q) (E := True) hgd d s dT sT ho elem hu hsz dp sp dLen dCap sLen sCap hd hs g off cur t hg cs hn hpos hfit h1 B w0 hb hBg h
  rwa [if_pos (by simp [Region.wanted, hgd])] at this
/-- at the head of a round: the block's first j cells are v -/
structure RepAt (w : World) (g k j : Nat) (t : TypeId) (v : Value) (wr : World) : Prop where
  cells : ∃ cur : List Value, wr.heap[g]? = some (.cells cur.toArray t (0, 0)) ∧ cur.length = k ∧ cur.take j = List.replicate j v
  below : Below w.heap.size w wr
  low : w.heap.size ≤ g

theorem splice_take {cur : List Value} {j m : Nat} {v : Value} (hj : cur.take j = List.replicate j v) (hm : j + m ≤ cur.length) : (splice cur j (List.replicate m v)).take (j + m) = List.replicate (j + m) v := by
  have hl : (cur.take j).length = j := by rw [List.length_take]; omega
  unfold splice
  rw [List.take_append, hl, List.take_of_length_le (by omega), hj, Nat.add_sub_cancel_left, List.take_left' (by simp), List.replicate_append_replicate]
theorem splice_len {cur cs : List Value} {j : Nat} (hm : j + cs.length ≤ cur.length) : (splice cur j cs).length = cur.length := by
  unfold splice; simp; omega
theorem RepAt.own {w wr : World} {g k : Nat} {t : TypeId} {v : Value} (h : RepAt w g k k t v wr) (hk : k ≤ maxLen) : wr.ownsRow w.heap.size t 1 (.slice (some ⟨g, 0, none⟩) k k) k (List.replicate k v) := by
  obtain ⟨cur, h1, h2, h3⟩ := h.cells
  refine ⟨by simp, .inr ⟨g, k, cur.toArray, rfl, h.low, h1, Nat.le_refl _, hk, by simp [h2], ?_⟩⟩
  rw [Nat.mul_one]; exact h3

set_option maxRecDepth 100000 in
set_option maxHeartbeats 2000000 in
theorem repI_any (A : Option Addr) (c : Nat) (x : Int) (k : Nat) (hk : k ≤ 65536) (w : World) (hR : Rd w w.heap.size 1 A 1 [Value.int .i64 x]) :
    Calls Try.prog 44 #[.slice A 1 c, .int .i64 (k : Int)] w fun e w' => ∃ A' c', e = .returned (.slice A' k c') ∧ w'.ownsRow w.heap.size 3 1 (.slice A' k c') k (List.replicate k (Value.int .i64 x)) ∧ Below w.heap.size w w' := by
  obtain ⟨i, hi, hz, hsz, hby⟩ := info_parts info3
  have hmk : (Instr.makeSlice 38 (.int .i64 (k : Int)) (.int .i64 (k : Int))).run Try.prog w = .ok (.slice (some ⟨w.heap.size, 0, none⟩) k k) (w.alloc (.cells (madeCells #[Value.int .i64 0] k) 3)) := by
    have := run_make (P := Try.prog) w 38 3 i (Value.int .i64 0) Try.underlying38 hi hz .i64 .i64 (k : Int) (k : Int) (by omega) (Int.le_refl _) (by rw [hby]; omega) (by omega)
    rw [hsz] at this
    simp at this
    exact this
  obtain ⟨b, off, rfl, hb, hcs⟩ := hR.at_ (Nat.zero_lt_one)
  have c0 : w.cell? ⟨b, off, none⟩ = some (Value.int .i64 x) := hcs 0 _ rfl
  have HM := Lib.hid (mul_one k hk w)
  have h1 : IntKind.u64.wrap (k : Int) = (k : Int) := by rw [IntKind.wrap_u64]; omega
  have h2 : IntKind.i64.wrap (k : Int) = (k : Int) := IntWalk.i64_in _ (by omega)
  have HC : Hid (w.cell? ⟨b, off, none⟩ = some (Value.int .i64 x)) := Lib.hid c0
  have HB := Lib.hid hb
  clear hi hz hsz hby hcs hR c0
  go_enter Try.func44, Try.ntmps44
  go_wp2_with fail
  refine HM.out.mono ?_
  rintro e w' ⟨rfl, rfl⟩
  obtain ⟨mc, hmc⟩ : ∃ mc : List Value, madeCells #[Value.int .i64 0] k = mc.toArray ∧ mc.length = k := ⟨(madeCells #[Value.int .i64 0] k).toList, by simp, by rw [Array.length_toList, size_madeCells]⟩
  obtain ⟨hmc1, hmc2⟩ := hmc
  rw [hmc1] at hmk
  have hW : (w.alloc (.cells mc.toArray 3)).heap[w.heap.size]? = some (.cells mc.toArray 3 (0, 0)) := World.alloc_heap_new w _
  have hbl : Below w.heap.size w (w.alloc (.cells mc.toArray 3)) := (Below.refl _ w).alloc (Nat.le_refl _) _
  have HW := Lib.hid hW
  have HBL := Lib.hid hbl
  have HL := Lib.hid hmc2
  have HC2 : Hid ((w.alloc (.cells mc.toArray 3)).cell? ⟨b, off, none⟩ = some (Value.int .i64 x)) := Lib.hid ((hbl.cell (p := ⟨b, off, none⟩) hb).trans HC.out)
  clear hmc1 hmc2 hW hbl
  rcases Nat.eq_zero_or_pos k with h0 | h0
  · subst h0
    have hn0 : mc = [] := List.eq_nil_of_length_eq_zero HL.out
    have HN := Lib.hid hn0
    have hmk0 : (Instr.makeSlice 38 (.int .i64 0) (.int .i64 0)).run Try.prog w = .ok (.slice (some ⟨w.heap.size, 0, none⟩) 0 0) (w.alloc (.cells mc.toArray 3)) := hmk
    clear hn0 hmk
    go_wp2_with (refine wpList_copy_nothing (o := ⟨some 33, _, _, _, _, _⟩) rfl (.tmp 31) (.tmp 32) 38 38 rfl 3 Try.underlying38 size3 (some ⟨w.heap.size, 0, none⟩) (some ⟨b, off, none⟩) 0 0 1 c rfl rfl rfl ?_)
    go_wp2_with fail
    go_loopw [8] (fun s8 wr => s8 = .int .i64 0 ∧ wr = (w.alloc (.cells mc.toArray 3))) (fun _ _ => 0)
    case atStart => exact ⟨rfl, rfl⟩
    case round =>
      obtain ⟨rfl, rfl⟩ := hrel
      go_wp2_with fail
      go_ret
      refine ⟨some ⟨w.heap.size, 0, none⟩, 0, rfl, ?_, HBL.out⟩
      have h5 := HW.out
      rw [HN.out] at h5 ⊢
      exact ⟨rfl, .inr ⟨w.heap.size, 0, #[], rfl, Nat.le_refl _, h5, Nat.le_refl _, by simp [maxLen], rfl, rfl⟩⟩
  · obtain ⟨a, hsz⟩ : ∃ a, a = w.heap.size := ⟨_, rfl⟩
    rw [← hsz] at HW hmk
    have HSZ := Lib.hid hsz
    have hsr0 : ∀ (j : Nat) v, [Value.int .i64 x][j]? = some v → (w.alloc (.cells mc.toArray 3)).cell? ((⟨b, off, none⟩ : Addr).add j) = some v := fun j v hv => by
      cases j with
      | zero => simp at hv; subst hv; rw [addr_add]; exact HC2.out
      | succ j => simp at hv
    have HS0 := Lib.hid hsr0
    have HMI : Hid ([Value.int .i64 x].length = Nat.min 1 k) := Lib.hid (Nat.min_eq_left h0).symm
    have HFT : Hid (0 + [Value.int .i64 x].length ≤ mc.length) := Lib.hid (by have := HL.out; simp; omega)
    have HON : Hid (∀ u ∈ [Value.int .i64 x], u.oneCell' = true) := Lib.hid (fun u hu => by simp at hu; subst hu; rfl)
    have HLO : Hid (w.heap.size ≤ a) := Lib.hid (by have := HSZ.out; omega)
    clear hsz hsr0
    go_wp2_with (refine wpList_copy_splice (o := ⟨some 33, _, _, _, _, _⟩) rfl (.tmp 31) (.tmp 32) 38 38 rfl 3 Try.underlying38 size3 (some ⟨a, 0, none⟩) (some ⟨b, off, none⟩) k k 1 c rfl rfl a 0 mc 3 HW.out [Value.int .i64 x] HMI.out (fun _ => ⟨rfl, _, rfl, HS0.out⟩) HFT.out HON.out w.heap.size w HBL.out HLO.out ?_)
    intro w2 hg2 hB2
    have HR0 : Hid (RepAt w a k 1 3 (Value.int .i64 x) w2) := Lib.hid ⟨⟨_, hg2.out, by rw [splice_len (by simp; have := HL.out; omega)]; exact HL.out, splice_take (j := 0) (m := 1) rfl (by have := HL.out; omega)⟩, hB2, by have := HSZ.out; omega⟩
    clear hg2 hB2 HW HBL HC HC2
    go_wp2_with fail
    go_loopw [8] (fun s8 wr => ∃ j : Nat, s8 = .int .i64 j ∧ 1 ≤ j ∧ j ≤ k ∧ Hid (RepAt w a k j 3 (Value.int .i64 x) wr)) (fun s8 _ => k - (intOf s8).toNat)
    case atStart => exact ⟨1, rfl, Nat.le_refl _, h0, HR0⟩
    case round =>
      obtain ⟨j, rfl, hj1, hjk, HA⟩ := hrel
      by_cases hlt : j < k
      · obtain ⟨m, hm⟩ : ∃ m, Nat.min j (k - j) = m := ⟨_, rfl⟩
        have hm1 : 1 ≤ m := by rw [← hm]; exact Nat.le_min.2 ⟨hj1, by omega⟩
        have hm2 : m ≤ j := by rw [← hm]; exact Nat.min_le_left _ _
        have hm3 : m ≤ k - j := by rw [← hm]; exact Nat.min_le_right _ _
        obtain ⟨cur, hg, hl, htk⟩ := HA.out.cells
        have HG := Lib.hid hg
        have HLC := Lib.hid hl
        have HTK := Lib.hid htk
        have HMM := Lib.hid hm
        have hsrc : ∀ (i : Nat) v, (List.replicate m (Value.int .i64 x))[i]? = some v → wr.cell? (({ block := a, off := 0 } : Addr).add i) = some v := fun i v hv => by
          rw [addr_add, Nat.zero_add]
          obtain ⟨hi, rfl⟩ := List.getElem?_eq_some_iff.1 hv
          simp at hi
          have h6 : cur[i]? = some (Value.int .i64 x) := by
            have := congrArg (fun l => l[i]?) htk
            simp only [List.getElem?_take] at this
            rw [if_pos (by omega)] at this
            rw [this, List.getElem?_replicate, if_pos (by omega)]
          simp [World.cell?, hg, h6]
        have HSR := Lib.hid hsrc
        have k1 : (0 : Int) ≤ (j : Int) := by omega
        have k2 : (j : Int) < (k : Int) := by omega
        have k3 : (j : Int) ≤ (k : Int) := by omega
        have hne : ¬ k = j := by omega
        have hwm : IntKind.i64.wrap ((j : Int) + (m : Int)) = ((j + m : Nat) : Int) := by rw [IntWalk.i64_in _ (by omega)]; omega
        have HBB := Lib.hid HA.out.below.drew
        have HLW := Lib.hid HA.out.low
        have HNN : Hid ((List.replicate m (Value.int .i64 x)).length = Nat.min j (k - j)) := Lib.hid (by rw [List.length_replicate]; exact hm.symm)
        have HFT2 : Hid (j + (List.replicate m (Value.int .i64 x)).length ≤ cur.length) := Lib.hid (by rw [List.length_replicate, hl]; omega)
        clear hg hl htk hm hsrc HA
        go_wp2_with fail
        refine wp_region_any (by kernel_rfl) ?_
        change wpAny _ _ _ _ _ _ _ (World.drew _)
        refine any_take (i := 0) (v := (.int .i64 (j : Int))) rfl rfl (by kernel_rfl) (by kernel_rfl) (by kernel_rfl) (fun _ _ _ h => h) (fun _ => by go_simp) ?_
        simp only [Act.put, List.setIfInBounds_toArray, List.set_cons_succ, List.set_cons_zero, List.getElem_toArray, List.getElem_cons_succ, List.getElem_cons_zero]
        refine any_take (i := 1) (v := (.slice (some ⟨a, 0, none⟩) k k)) rfl rfl (by kernel_rfl) (by kernel_rfl) (by kernel_rfl) (fun _ _ _ h => h) (fun _ => by go_simp) ?_
        simp only [Act.put, List.setIfInBounds_toArray, List.set_cons_succ, List.set_cons_zero, List.getElem_toArray, List.getElem_cons_succ, List.getElem_cons_zero]
        refine any_take (i := 2) (v := (.int .i64 (j : Int))) rfl rfl (by kernel_rfl) (by kernel_rfl) (by kernel_rfl) (fun _ _ _ h => h) (fun _ => by go_simp) ?_
        simp only [Act.put, List.setIfInBounds_toArray, List.set_cons_succ, List.set_cons_zero, List.getElem_toArray, List.getElem_cons_succ, List.getElem_cons_zero]
        refine any_take (i := 4) (v := (.slice (some ⟨a, 0, none⟩) k k)) rfl rfl (by kernel_rfl) (by kernel_rfl) (by kernel_rfl) (fun _ _ _ h => h) (fun _ => by go_simp) ?_
        simp only [Act.put, List.setIfInBounds_toArray, List.set_cons_succ, List.set_cons_zero, List.getElem_toArray, List.getElem_cons_succ, List.getElem_cons_zero]
        refine any_take (i := 5) (v := (.int .i64 (j : Int))) rfl rfl (by kernel_rfl) (by kernel_rfl) (by kernel_rfl) (fun _ _ _ h => h) (fun _ => by go_simp) ?_
        simp only [Act.put, List.setIfInBounds_toArray, List.set_cons_succ, List.set_cons_zero, List.getElem_toArray, List.getElem_cons_succ, List.getElem_cons_zero]
        refine any_take (i := 3) (v := (.slice (some ⟨a, j, none⟩) (k - j) (k - j))) rfl rfl (by kernel_rfl) (by kernel_rfl) (by kernel_rfl) (fun _ _ _ h => h) (fun _ => by go_simp) ?_
        simp only [Act.put, List.setIfInBounds_toArray, List.set_cons_succ, List.set_cons_zero, List.getElem_toArray, List.getElem_cons_succ, List.getElem_cons_zero]
        refine any_take (i := 6) (v := (.slice (some ⟨a, 0, none⟩) j k)) rfl rfl (by kernel_rfl) (by kernel_rfl) (by kernel_rfl) (fun _ _ _ h => h) (fun _ => by go_simp) ?_
        simp only [Act.put, List.setIfInBounds_toArray, List.set_cons_succ, List.set_cons_zero, List.getElem_toArray, List.getElem_cons_succ, List.getElem_cons_zero]
        refine any_one (i := 7) (by kernel_rfl) rfl rfl (wp_copy rfl (.tmp 41) (.tmp 44) 38 38 rfl 3 Try.underlying38 size3 (some ⟨a, j, none⟩) (some ⟨a, 0, none⟩) (k - j) (k - j) j k rfl rfl a j cur 3 HG.out (List.replicate m (Value.int .i64 x)) HNN.out (fun _ => ⟨rfl, _, rfl, HSR.out⟩) HFT2.out (fun u hu => by rw [List.eq_of_mem_replicate hu]; rfl) w.heap.size w HBB.out HLW.out ?_)
        intro w4 hg4 hb4
        have HA4 : Hid (RepAt w a k (j + m) 3 (Value.int .i64 x) w4) := Lib.hid ⟨⟨_, hg4.out, by rw [splice_len HFT2.out]; exact HLC.out, splice_take HTK.out (by have := HFT2.out; simpa using this)⟩, hb4, HLW.out⟩
        clear hg4 hb4
        have hgi : goInt (List.replicate m (Value.int .i64 x)).length = .int .i64 (m : Int) := by simp [goInt]
        rw [hgi]
        simp only [Act.put, List.setIfInBounds_toArray, List.set_cons_succ, List.set_cons_zero, List.getElem_toArray, List.getElem_cons_succ, List.getElem_cons_zero]
        refine any_one (i := 8) (by kernel_rfl) rfl rfl ?_
        simp only [List.getElem_toArray, List.getElem_cons_succ, List.getElem_cons_zero]
        go_simp
        refine any_one (i := 9) (by kernel_rfl) rfl rfl ?_
        simp only [List.getElem_toArray, List.getElem_cons_succ, List.getElem_cons_zero]
        go_simp
        refine wpAny_done (by kernel_rfl) ?_ _
        go_wp2_with fail
        go_roundw
        case rel => exact ⟨j + m, by first | rfl | go_num, by omega, by omega, HA4⟩
        case measure => simp [intOf]; omega
      · obtain rfl : j = k := by omega
        go_wp2_with fail
        go_ret
        exact ⟨some ⟨a, 0, none⟩, j, rfl, HA.out.own (by unfold maxLen; omega), HA.out.below⟩

set_option maxRecDepth 100000 in
set_option maxHeartbeats 2000000 in
theorem repB_any (A : Option Addr) (c : Nat) (x : Bool) (k : Nat) (hk : k ≤ 65536) (w : World) (hR : Rd w w.heap.size 1 A 1 [Value.bool x]) :
    Calls Try.prog 45 #[.slice A 1 c, .int .i64 (k : Int)] w fun e w' => ∃ A' c', e = .returned (.slice A' k c') ∧ w'.ownsRow w.heap.size 4 1 (.slice A' k c') k (List.replicate k (Value.bool x)) ∧ Below w.heap.size w w' := by
  obtain ⟨i, hi, hz, hsz, hby⟩ := info_parts info4
  have hmk : (Instr.makeSlice 39 (.int .i64 (k : Int)) (.int .i64 (k : Int))).run Try.prog w = .ok (.slice (some ⟨w.heap.size, 0, none⟩) k k) (w.alloc (.cells (madeCells #[Value.bool false] k) 4)) := by
    have := run_make (P := Try.prog) w 39 4 i (Value.bool false) Try.underlying39 hi hz .i64 .i64 (k : Int) (k : Int) (by omega) (Int.le_refl _) (by rw [hby]; omega) (by omega)
    rw [hsz] at this
    simp at this
    exact this
  obtain ⟨b, off, rfl, hb, hcs⟩ := hR.at_ (Nat.zero_lt_one)
  have c0 : w.cell? ⟨b, off, none⟩ = some (Value.bool x) := hcs 0 _ rfl
  have HM := Lib.hid (mul_one k hk w)
  have h1 : IntKind.u64.wrap (k : Int) = (k : Int) := by rw [IntKind.wrap_u64]; omega
  have h2 : IntKind.i64.wrap (k : Int) = (k : Int) := IntWalk.i64_in _ (by omega)
  have HC : Hid (w.cell? ⟨b, off, none⟩ = some (Value.bool x)) := Lib.hid c0
  have HB := Lib.hid hb
  clear hi hz hsz hby hcs hR c0
  go_enter Try.func45, Try.ntmps45
  go_wp2_with fail
  refine HM.out.mono ?_
  rintro e w' ⟨rfl, rfl⟩
  obtain ⟨mc, hmc⟩ : ∃ mc : List Value, madeCells #[Value.bool false] k = mc.toArray ∧ mc.length = k := ⟨(madeCells #[Value.bool false] k).toList, by simp, by rw [Array.length_toList, size_madeCells]⟩
  obtain ⟨hmc1, hmc2⟩ := hmc
  rw [hmc1] at hmk
  have hW : (w.alloc (.cells mc.toArray 4)).heap[w.heap.size]? = some (.cells mc.toArray 4 (0, 0)) := World.alloc_heap_new w _
  have hbl : Below w.heap.size w (w.alloc (.cells mc.toArray 4)) := (Below.refl _ w).alloc (Nat.le_refl _) _
  have HW := Lib.hid hW
  have HBL := Lib.hid hbl
  have HL := Lib.hid hmc2
  have HC2 : Hid ((w.alloc (.cells mc.toArray 4)).cell? ⟨b, off, none⟩ = some (Value.bool x)) := Lib.hid ((hbl.cell (p := ⟨b, off, none⟩) hb).trans HC.out)
  clear hmc1 hmc2 hW hbl
  rcases Nat.eq_zero_or_pos k with h0 | h0
  · subst h0
    have hn0 : mc = [] := List.eq_nil_of_length_eq_zero HL.out
    have HN := Lib.hid hn0
    have hmk0 : (Instr.makeSlice 39 (.int .i64 0) (.int .i64 0)).run Try.prog w = .ok (.slice (some ⟨w.heap.size, 0, none⟩) 0 0) (w.alloc (.cells mc.toArray 4)) := hmk
    clear hn0 hmk
    go_wp2_with (refine wpList_copy_nothing (o := ⟨some 33, _, _, _, _, _⟩) rfl (.tmp 31) (.tmp 32) 39 39 rfl 4 Try.underlying39 size4 (some ⟨w.heap.size, 0, none⟩) (some ⟨b, off, none⟩) 0 0 1 c rfl rfl rfl ?_)
    go_wp2_with fail
    go_loopw [8] (fun s8 wr => s8 = .int .i64 0 ∧ wr = (w.alloc (.cells mc.toArray 4))) (fun _ _ => 0)
    case atStart => exact ⟨rfl, rfl⟩
    case round =>
      obtain ⟨rfl, rfl⟩ := hrel
      go_wp2_with fail
      go_ret
      refine ⟨some ⟨w.heap.size, 0, none⟩, 0, rfl, ?_, HBL.out⟩
      have h5 := HW.out
      rw [HN.out] at h5 ⊢
      exact ⟨rfl, .inr ⟨w.heap.size, 0, #[], rfl, Nat.le_refl _, h5, Nat.le_refl _, by simp [maxLen], rfl, rfl⟩⟩
  · obtain ⟨a, hsz⟩ : ∃ a, a = w.heap.size := ⟨_, rfl⟩
    rw [← hsz] at HW hmk
    have HSZ := Lib.hid hsz
    have hsr0 : ∀ (j : Nat) v, [Value.bool x][j]? = some v → (w.alloc (.cells mc.toArray 4)).cell? ((⟨b, off, none⟩ : Addr).add j) = some v := fun j v hv => by
      cases j with
      | zero => simp at hv; subst hv; rw [addr_add]; exact HC2.out
      | succ j => simp at hv
    have HS0 := Lib.hid hsr0
    have HMI : Hid ([Value.bool x].length = Nat.min 1 k) := Lib.hid (Nat.min_eq_left h0).symm
    have HFT : Hid (0 + [Value.bool x].length ≤ mc.length) := Lib.hid (by have := HL.out; simp; omega)
    have HON : Hid (∀ u ∈ [Value.bool x], u.oneCell' = true) := Lib.hid (fun u hu => by simp at hu; subst hu; rfl)
    have HLO : Hid (w.heap.size ≤ a) := Lib.hid (by have := HSZ.out; omega)
    clear hsz hsr0
    go_wp2_with (refine wpList_copy_splice (o := ⟨some 33, _, _, _, _, _⟩) rfl (.tmp 31) (.tmp 32) 39 39 rfl 4 Try.underlying39 size4 (some ⟨a, 0, none⟩) (some ⟨b, off, none⟩) k k 1 c rfl rfl a 0 mc 4 HW.out [Value.bool x] HMI.out (fun _ => ⟨rfl, _, rfl, HS0.out⟩) HFT.out HON.out w.heap.size w HBL.out HLO.out ?_)
    intro w2 hg2 hB2
    have HR0 : Hid (RepAt w a k 1 4 (Value.bool x) w2) := Lib.hid ⟨⟨_, hg2.out, by rw [splice_len (by simp; have := HL.out; omega)]; exact HL.out, splice_take (j := 0) (m := 1) rfl (by have := HL.out; omega)⟩, hB2, by have := HSZ.out; omega⟩
    clear hg2 hB2 HW HBL HC HC2
    go_wp2_with fail
    go_loopw [8] (fun s8 wr => ∃ j : Nat, s8 = .int .i64 j ∧ 1 ≤ j ∧ j ≤ k ∧ Hid (RepAt w a k j 4 (Value.bool x) wr)) (fun s8 _ => k - (intOf s8).toNat)
    case atStart => exact ⟨1, rfl, Nat.le_refl _, h0, HR0⟩
    case round =>
      obtain ⟨j, rfl, hj1, hjk, HA⟩ := hrel
      by_cases hlt : j < k
      · obtain ⟨m, hm⟩ : ∃ m, Nat.min j (k - j) = m := ⟨_, rfl⟩
        have hm1 : 1 ≤ m := by rw [← hm]; exact Nat.le_min.2 ⟨hj1, by omega⟩
        have hm2 : m ≤ j := by rw [← hm]; exact Nat.min_le_left _ _
        have hm3 : m ≤ k - j := by rw [← hm]; exact Nat.min_le_right _ _
        obtain ⟨cur, hg, hl, htk⟩ := HA.out.cells
        have HG := Lib.hid hg
        have HLC := Lib.hid hl
        have HTK := Lib.hid htk
        have HMM := Lib.hid hm
        have hsrc : ∀ (i : Nat) v, (List.replicate m (Value.bool x))[i]? = some v → wr.cell? (({ block := a, off := 0 } : Addr).add i) = some v := fun i v hv => by
          rw [addr_add, Nat.zero_add]
          obtain ⟨hi, rfl⟩ := List.getElem?_eq_some_iff.1 hv
          simp at hi
          have h6 : cur[i]? = some (Value.bool x) := by
            have := congrArg (fun l => l[i]?) htk
            simp only [List.getElem?_take] at this
            rw [if_pos (by omega)] at this
            rw [this, List.getElem?_replicate, if_pos (by omega)]
          simp [World.cell?, hg, h6]
        have HSR := Lib.hid hsrc
        have k1 : (0 : Int) ≤ (j : Int) := by omega
        have k2 : (j : Int) < (k : Int) := by omega
        have k3 : (j : Int) ≤ (k : Int) := by omega
        have hne : ¬ k = j := by omega
        have hwm : IntKind.i64.wrap ((j : Int) + (m : Int)) = ((j + m : Nat) : Int) := by rw [IntWalk.i64_in _ (by omega)]; omega
        have HBB := Lib.hid HA.out.below.drew
        have HLW := Lib.hid HA.out.low
        have HNN : Hid ((List.replicate m (Value.bool x)).length = Nat.min j (k - j)) := Lib.hid (by rw [List.length_replicate]; exact hm.symm)
        have HFT2 : Hid (j + (List.replicate m (Value.bool x)).length ≤ cur.length) := Lib.hid (by rw [List.length_replicate, hl]; omega)
        clear hg hl htk hm hsrc HA
        go_wp2_with fail
        refine wp_region_any (by kernel_rfl) ?_
        change wpAny _ _ _ _ _ _ _ (World.drew _)
        refine any_take (i := 0) (v := (.int .i64 (j : Int))) rfl rfl (by kernel_rfl) (by kernel_rfl) (by kernel_rfl) (fun _ _ _ h => h) (fun _ => by go_simp) ?_
        simp only [Act.put, List.setIfInBounds_toArray, List.set_cons_succ, List.set_cons_zero, List.getElem_toArray, List.getElem_cons_succ, List.getElem_cons_zero]
        refine any_take (i := 1) (v := (.slice (some ⟨a, 0, none⟩) k k)) rfl rfl (by kernel_rfl) (by kernel_rfl) (by kernel_rfl) (fun _ _ _ h => h) (fun _ => by go_simp) ?_
        simp only [Act.put, List.setIfInBounds_toArray, List.set_cons_succ, List.set_cons_zero, List.getElem_toArray, List.getElem_cons_succ, List.getElem_cons_zero]
        refine any_take (i := 2) (v := (.int .i64 (j : Int))) rfl rfl (by kernel_rfl) (by kernel_rfl) (by kernel_rfl) (fun _ _ _ h => h) (fun _ => by go_simp) ?_
        simp only [Act.put, List.setIfInBounds_toArray, List.set_cons_succ, List.set_cons_zero, List.getElem_toArray, List.getElem_cons_succ, List.getElem_cons_zero]
        refine any_take (i := 4) (v := (.slice (some ⟨a, 0, none⟩) k k)) rfl rfl (by kernel_rfl) (by kernel_rfl) (by kernel_rfl) (fun _ _ _ h => h) (fun _ => by go_simp) ?_
        simp only [Act.put, List.setIfInBounds_toArray, List.set_cons_succ, List.set_cons_zero, List.getElem_toArray, List.getElem_cons_succ, List.getElem_cons_zero]
        refine any_take (i := 5) (v := (.int .i64 (j : Int))) rfl rfl (by kernel_rfl) (by kernel_rfl) (by kernel_rfl) (fun _ _ _ h => h) (fun _ => by go_simp) ?_
        simp only [Act.put, List.setIfInBounds_toArray, List.set_cons_succ, List.set_cons_zero, List.getElem_toArray, List.getElem_cons_succ, List.getElem_cons_zero]
        refine any_take (i := 3) (v := (.slice (some ⟨a, j, none⟩) (k - j) (k - j))) rfl rfl (by kernel_rfl) (by kernel_rfl) (by kernel_rfl) (fun _ _ _ h => h) (fun _ => by go_simp) ?_
        simp only [Act.put, List.setIfInBounds_toArray, List.set_cons_succ, List.set_cons_zero, List.getElem_toArray, List.getElem_cons_succ, List.getElem_cons_zero]
        refine any_take (i := 6) (v := (.slice (some ⟨a, 0, none⟩) j k)) rfl rfl (by kernel_rfl) (by kernel_rfl) (by kernel_rfl) (fun _ _ _ h => h) (fun _ => by go_simp) ?_
        simp only [Act.put, List.setIfInBounds_toArray, List.set_cons_succ, List.set_cons_zero, List.getElem_toArray, List.getElem_cons_succ, List.getElem_cons_zero]
        refine any_one (i := 7) (by kernel_rfl) rfl rfl (wp_copy rfl (.tmp 41) (.tmp 44) 39 39 rfl 4 Try.underlying39 size4 (some ⟨a, j, none⟩) (some ⟨a, 0, none⟩) (k - j) (k - j) j k rfl rfl a j cur 4 HG.out (List.replicate m (Value.bool x)) HNN.out (fun _ => ⟨rfl, _, rfl, HSR.out⟩) HFT2.out (fun u hu => by rw [List.eq_of_mem_replicate hu]; rfl) w.heap.size w HBB.out HLW.out ?_)
        intro w4 hg4 hb4
        have HA4 : Hid (RepAt w a k (j + m) 4 (Value.bool x) w4) := Lib.hid ⟨⟨_, hg4.out, by rw [splice_len HFT2.out]; exact HLC.out, splice_take HTK.out (by have := HFT2.out; simpa using this)⟩, hb4, HLW.out⟩
        clear hg4 hb4
        have hgi : goInt (List.replicate m (Value.bool x)).length = .int .i64 (m : Int) := by simp [goInt]
        rw [hgi]
        simp only [Act.put, List.setIfInBounds_toArray, List.set_cons_succ, List.set_cons_zero, List.getElem_toArray, List.getElem_cons_succ, List.getElem_cons_zero]
        refine any_one (i := 8) (by kernel_rfl) rfl rfl ?_
        simp only [List.getElem_toArray, List.getElem_cons_succ, List.getElem_cons_zero]
        go_simp
        refine any_one (i := 9) (by kernel_rfl) rfl rfl ?_
        simp only [List.getElem_toArray, List.getElem_cons_succ, List.getElem_cons_zero]
        go_simp
        refine wpAny_done (by kernel_rfl) ?_ _
        go_wp2_with fail
        go_roundw
        case rel => exact ⟨j + m, by first | rfl | go_num, by omega, by omega, HA4⟩
        case measure => simp [intOf]; omega
      · obtain rfl : j = k := by omega
        go_wp2_with fail
        go_ret
        exact ⟨some ⟨a, 0, none⟩, j, rfl, HA.out.own (by unfold maxLen; omega), HA.out.below⟩
end Go.Proofs.Ytokpcpopibpebaa
