/-
  The contract of the document's Pieces.
-/
import Derived.Test.YtdajnkcjdmnnkaaSmall2
namespace Go.Proofs.Ytdajnkcjdmnnkaa
open Go Go.RowKit
set_option linter.unusedVariables false

/-- the list that the document has after k elements -/
def sofar (l : List El) (k : Nat) : List Sp := emi l k ++ [(cur l k).till k]
theorem sofar_len (l : List El) (k : Nat) : (sofar l k).length = (emi l k).length + 1 := by simp [sofar]
theorem sofar_all (l : List El) : sofar l l.length = pieces l := rfl
theorem sofar_hit {l : List El} {k : Nat} {e : El} (h : l[k]? = some e) (hb : bnd e = true) : sofar l (k + 1) = sofar l k ++ [⟨e.n, e.r, (k : Int) + 1, (k : Int) + 1⟩] := by
  unfold sofar
  rw [emi_hit h hb, cur_hit h hb]
  simp [Sp.till]
theorem sofar_miss {l : List El} {k : Nat} {e : El} (h : l[k]? = some e) (hb : bnd e = false) : sofar l (k + 1) = emi l k ++ [(cur l k).till ((k : Int) + 1)] := by
  unfold sofar
  rw [emi_miss h hb, cur_miss h hb]
  simp
theorem sps_set (E : List Sp) (s : Sp) (v : Int) : (sps (E ++ [s])).set (E.length * 4 + 3) (.int .i64 v) = sps (E ++ [s.till v]) := by
  rw [sps_append, sps_append, List.set_append_right _ _ (by rw [sps_len]; omega), sps_len]
  have : E.length * 4 + 3 - E.length * 4 = 3 := by omega
  rw [this]; rfl

/-- the list under way, as memory -/
structure SoFar (w wr : World) (g m c : Nat) (xs : List Sp) : Prop where
  own : wr.ownsRow w.heap.size 31 4 (.slice (some ⟨g, 0, none⟩) m c) m (sps xs)
  below : Below w.heap.size w wr

theorem SoFar.till {w wr : World} {g m c : Nat} {E : List Sp} {s : Sp} (h : SoFar w wr g m c (E ++ [s])) (v : Int) (hm : m = E.length + 1) (hg : w.heap.size ≤ g) : SoFar w (wr.setCell ⟨g, (m - 1) * 4 + 3, none⟩ (.int .i64 v)) g m c (E ++ [s.till v]) := by
  have e : m - 1 = E.length := by omega
  rw [e]
  refine ⟨?_, h.below.setCell (p := ⟨g, E.length * 4 + 3, none⟩) hg _⟩
  rw [← sps_set]
  exact (h.own.stored (E.length * 4 + 3) (.int .i64 v)).1

set_option maxRecDepth 100000 in
set_option maxHeartbeats 2000000 in
theorem rpieces_any {w : World} {A : Option Addr} {n c : Nat} {l : List El} (hR : Rd w w.heap.size 4 A n (els l)) (hn : n ≤ 1000) :
    Calls Try.prog 12 #[.slice A n c] w fun e w' => SpsOwn w.heap.size (pieces l) e w' ∧ Below w.heap.size w w' := by
  have hlen : l.length = n := by have := hR.1; rw [els_len] at this; omega
  have HL := Lib.hid hlen
  have HR := Lib.hid hR
  clear hlen hR
  go_enter Try.func12, Try.ntmps12
  go_wp2_with fail
  go_loopw [3, 4] (fun v i wr => ∃ (k g m c' : Nat), k ≤ n ∧ i = .int .i64 k ∧ v = .slice (some ⟨g, 0, none⟩) m c' ∧ w.heap.size ≤ g ∧ 1 ≤ m ∧ m ≤ k + 1 ∧ Hid (m = (emi l k).length + 1) ∧ SoFar w wr g m c' (sofar l k)) (fun _ i _ => n - (intOf i).toNat)
  case atStart =>
    refine ⟨0, w.heap.size, 1, 1, Nat.zero_le _, rfl, rfl, Nat.le_refl _, Nat.le_refl _, Nat.le_refl _, Lib.hid rfl, ?_, (Below.refl _ w).alloc (Nat.le_refl _) _⟩
    exact ⟨rfl, .inr ⟨w.heap.size, 1, _, rfl, Nat.le_refl _, World.alloc_heap_new w _, Nat.le_refl _, by simp [maxLen], rfl, rfl⟩⟩
  case round =>
    obtain ⟨k, g, m, c', hk, rfl, rfl, hg, h1m, hmk, hm, hS⟩ := hrel
    have HS := Lib.hid hS
    by_cases hlt : k < n
    · obtain ⟨e, he⟩ : ∃ e, l[k]? = some e := ⟨l[k]'(by rw [HL.out]; exact hlt), List.getElem?_eq_getElem _⟩
      obtain ⟨b, off, rfl, hb, c0, c1, c2, c3⟩ := (HR.out.below hS.below).el he
      have HE := Lib.hid he
      clear he hS
      obtain ⟨en, er, ech, eg⟩ := e
      simp only at c0 c1 c2 c3
      go_wp2_with fail
      refine (begins_any _ _ _ _ _).mono ?_
      rintro e w2 ⟨rfl, hB2⟩
      have hgw : g < wr.heap.size := (HS.out.own.lt g rfl).2
      have HS2 : Hid (SoFar w w2 g m c' (sofar l k)) := Lib.hid ⟨own_heap HS.out.own (fun g' e' => hB2.block g' (by cases e'; exact hgw)), HS.out.below.trans (hB2.mono HS.out.below.size)⟩
      have hbw : b < wr.heap.size := by have := HS.out.below.size; omega
      obtain ⟨hc2, hf2⟩ := bcell hB2
      have k0 := (hc2 b (off + k * 4) hbw).trans c0
      have k1 := (hc2 b (off + k * 4 + 1) hbw).trans c1
      clear c0 c1 c2 c3 hc2 hf2 hB2 HS
      have im1 : (m : Int) - 1 < (m : Int) := by omega
      have im2 : (0 : Int) ≤ (m : Int) - 1 := by omega
      have im3 : ((m : Int) - 1).toNat = m - 1 := by omega
      have IM3 := Lib.hid im3
      clear im3
      cases hbn : bnd ⟨en, er, ech, eg⟩ with
      | true =>
        go_wp2_with (at_builtin; refine wpList_app _ rfl (.tmp 20) (.tmp 29) 24 rfl w w.heap.size 31 (.agg #[.int .i64 0, .int .i64 0, .int .i64 0, .int .i64 0]) 4 32 Try.underlying24 info31 rfl (by decide) _ _ _ rfl (HS2.out.own.alloc _) (w2.heap.size + 1) (some ⟨w2.heap.size, 0, none⟩) 1 1 (sps [⟨en, er, (k : Int) + 1, 0⟩]) rfl (rd_alloc w2 #[.int .i64 en, .int .i64 er, .int .i64 ((k : Int) + 1), .int .i64 0] 31 (0, 0) 1 4 rfl) (sps_one _) (by unfold maxLen; omega) (by omega) (HS2.out.below.alloc HS2.out.below.size _) (Nat.le_refl _) ?_)
        intro A3 c3 w3 hown3 hg3 hB3
        rw [← sps_append] at hown3
        obtain ⟨g3, rfl, hgg, _⟩ := own_addr hown3 (by omega)
        have HS3 : Hid (SoFar w w3 g3 (m + 1) c3 (sofar l k ++ [⟨en, er, (k : Int) + 1, 0⟩])) := Lib.hid ⟨hown3, hB3⟩
        have hlast : w3.cell? ⟨g3, m * 4 + 3, none⟩ = some (.int .i64 0) := by
          rw [hown3.cellAt (m * 4 + 3) (by omega)]
          have := flat4 Sp.cells (fun _ => rfl) (sofar l k ++ [⟨en, er, (k : Int) + 1, 0⟩]) m ⟨en, er, (k : Int) + 1, 0⟩ 3 (by rw [hm.out, ← sofar_len]; simp) (by omega)
          exact this
        have hfr : w3.frozen? ⟨g3, m * 4 + 3, none⟩ = false := hown3.frozenAt _
        clear hown3 hg3 hB3
        have HS4 : Hid (SoFar w (w3.setCell ⟨g3, m * 4 + 3, none⟩ (.int .i64 ((k : Int) + 1))) g3 (m + 1) c3 (sofar l (k + 1))) := Lib.hid (by
          have := HS3.out.till ((k : Int) + 1) (by rw [sofar_len, hm.out]) hgg
          rw [sofar_hit HE.out hbn]
          exact this)
        have HM2 : Hid (m + 1 = (emi l (k + 1)).length + 1) := Lib.hid (by rw [emi_hit HE.out hbn, hm.out]; simp)
        clear HS3
        go_wp2_with fail
        go_roundw
        case rel => exact ⟨k + 1, g3, m + 1, c3, by omega, by go_num, rfl, hgg, by omega, by omega, HM2, HS4.out⟩
        case measure => simp [intOf]; omega
      | false =>
        have hlast : w2.cell? ⟨g, (m - 1) * 4 + 3, none⟩ = some (.int .i64 (k : Int)) := by
          rw [HS2.out.own.cellAt ((m - 1) * 4 + 3) (by omega)]
          have := flat4 Sp.cells (fun _ => rfl) (sofar l k) (m - 1) ((cur l k).till k) 3 (by rw [hm.out]; simp [sofar]) (by omega)
          exact this
        have hfr : w2.frozen? ⟨g, (m - 1) * 4 + 3, none⟩ = false := HS2.out.own.frozenAt _
        have HS4 : Hid (SoFar w (w2.setCell ⟨g, (m - 1) * 4 + 3, none⟩ (.int .i64 ((k : Int) + 1))) g m c' (sofar l (k + 1))) := Lib.hid (by
          have := HS2.out.till ((k : Int) + 1) hm.out hg
          rw [sofar_miss HE.out hbn]
          exact this)
        have HM2 : Hid (m = (emi l (k + 1)).length + 1) := Lib.hid (by rw [emi_miss HE.out hbn, ← hm.out])
        clear HS2
        go_wp2_with fail
        go_roundw
        case rel => exact ⟨k + 1, g, m, c', by omega, by go_num, rfl, hg, h1m, by omega, HM2, HS4.out⟩
        case measure => simp [intOf]; omega
    · obtain rfl : k = n := by omega
      clear hS
      have hfin : sofar l k = pieces l := by rw [← HL.out]; exact sofar_all l
      have hml : m = (pieces l).length := by rw [← hfin, sofar_len, hm.out]
      have HFN := Lib.hid hfin
      have HML := Lib.hid hml
      clear hfin hml
      go_wp2_with fail
      go_ret
      have h1 := HS.out.own
      rw [HFN.out] at h1
      refine ⟨⟨some ⟨g, 0, none⟩, c', ?_, ?_⟩, HS.out.below⟩
      · rw [← HML.out]; rfl
      · rw [← HML.out]; exact h1
end Go.Proofs.Ytdajnkcjdmnnkaa
