/-
  The contracts of stemmaref04.Same and SameBools.
-/
import Derived.Test.YtokpcpopibpebaaRDeltasF
import Derived.Deep.QuietTactic
import Derived.BigQuiet
namespace Go.Proofs.Ytokpcpopibpebaa
open Go Go.RowKit
set_option linter.unusedVariables false
set_option linter.unusedSimpArgs false

theorem list_eq_of {α : Type} {l l' : List α} {n : Nat} (hl : l.length = n) (hl' : l'.length = n) (h : ∀ j, j < n → l[j]? = l'[j]?) : l = l' := by
  apply List.ext_getElem?
  intro j
  rcases Nat.lt_or_ge j n with h1 | h1
  · exact h j h1
  · rw [List.getElem?_eq_none (by omega), List.getElem?_eq_none (by omega)]

set_option maxRecDepth 100000 in
set_option maxHeartbeats 2000000 in
theorem same4_any {w : World} {B B' : Nat} {A A' : Option Addr} {n n' c c' : Nat} {l l' : List Int} (h : Rd w B 1 A n (i64s l)) (h' : Rd w B' 1 A' n' (i64s l')) (hn : n ≤ 9223372036854775807) (hn' : n' ≤ 9223372036854775807) :
    Calls Try.prog 33 #[.slice A n c, .slice A' n' c'] w fun e w' => e = .returned (.bool (decide (l = l'))) ∧ Below w.heap.size w w' := by
  have hl : l.length = n := by have := h.len1; rwa [i64s_len] at this
  have hl' : l'.length = n' := by have := h'.len1; rwa [i64s_len] at this
  have H := Lib.hid h
  have H' := Lib.hid h'
  have HL := Lib.hid hl
  have HL' := Lib.hid hl'
  clear h h' hl hl'
  by_cases hnn : n = n'
  · subst hnn
    go_enter Try.func33, Try.ntmps33
    go_wp2_with fail
    go_loopw [5] (fun s5 wr => ∃ j mq : Nat, s5 = .int .i64 j ∧ j ≤ n ∧ Hid (∀ i, i < j → l[i]? = l'[i]?) ∧ wr = w.drewN mq) (fun s5 _ => n - (intOf s5).toNat)
    case atStart => exact ⟨0, 0, rfl, Nat.zero_le _, Lib.hid fun i hi => absurd hi (Nat.not_lt_zero _), rfl⟩
    case round =>
      obtain ⟨j, mq, rfl, hj, HE, rfl⟩ := hrel
      by_cases hlt : j < n
      · obtain ⟨x, hx⟩ : ∃ x, l[j]? = some x := ⟨l[j]'(by rw [HL.out]; exact hlt), List.getElem?_eq_getElem _⟩
        obtain ⟨y, hy⟩ : ∃ y, l'[j]? = some y := ⟨l'[j]'(by rw [HL'.out]; exact hlt), List.getElem?_eq_getElem _⟩
        obtain ⟨b, off, rfl, hb, hcs⟩ := H.out.at_ (Nat.lt_of_le_of_lt (Nat.zero_le _) hlt)
        obtain ⟨b', off', rfl, hb', hcs'⟩ := H'.out.at_ (Nat.lt_of_le_of_lt (Nat.zero_le _) hlt)
        have cx : w.cell? ⟨b, off + j, none⟩ = some (Value.int .i64 x) := hcs j _ (i64s_at hx)
        have cy : w.cell? ⟨b', off' + j, none⟩ = some (Value.int .i64 y) := hcs' j _ (i64s_at hy)
        have k1 : (0 : Int) ≤ (j : Int) := by omega
        have k2 : (j : Int) < (n : Int) := by omega
        by_cases hxy : x = y
        · have HE2 : Hid (∀ i, i < j + 1 → l[i]? = l'[i]?) := Lib.hid fun i hi => by
            rcases Nat.lt_or_ge i j with h | h
            · exact HE.out i h
            · obtain rfl : i = j := by omega
              rw [hx, hy, hxy]
          subst hxy
          have g1 : (x != x) = false := by simp
          clear hx hy hcs hcs'
          go_wp2_with fail
          go_quiet (fail)
          rw [World.drewN_drewN]
          go_wp2_with fail
          go_roundw
          case rel => exact ⟨j + 1, _, by go_num, by omega, HE2, rfl⟩
          case measure => simp [intOf]; omega
        · have g1 : (x != y) = true := by simpa using hxy
          have HN : Hid (¬ l = l') := Lib.hid fun e => by rw [e, hy] at hx; injection hx with hx; exact hxy hx.symm
          clear hx hy hcs hcs' hxy
          go_wp2_with fail
          go_quiet (fail)
          rw [World.drewN_drewN]
          go_wp2_with fail
          go_ret
          exact ⟨by rw [decide_eq_false HN.out]; rfl, blw_draw (Below.refl _ _) _⟩
      · obtain rfl : j = n := by omega
        have HN : Hid (l = l') := Lib.hid (list_eq_of HL.out HL'.out HE.out)
        go_wp2_with fail
        go_ret
        exact ⟨by rw [decide_eq_true HN.out]; rfl, blw_draw (Below.refl _ _) _⟩
  · have HN : Hid (¬ l = l') := Lib.hid fun e => hnn (by rw [← HL.out, ← HL'.out, e])
    have g1 : ((n : Int) != (n' : Int)) = true := by simpa using (by omega : ¬ (n : Int) = (n' : Int))
    go_enter Try.func33, Try.ntmps33
    go_wp2_with fail
    go_ret
    exact ⟨by rw [decide_eq_false HN.out]; rfl, Below.refl _ _⟩

set_option maxRecDepth 100000 in
set_option maxHeartbeats 2000000 in
theorem sameB_any {w : World} {B B' : Nat} {A A' : Option Addr} {n n' c c' : Nat} {l l' : List Bool} (h : Rd w B 1 A n (bls l)) (h' : Rd w B' 1 A' n' (bls l')) (hn : n ≤ 9223372036854775807) (hn' : n' ≤ 9223372036854775807) :
    Calls Try.prog 40 #[.slice A n c, .slice A' n' c'] w fun e w' => e = .returned (.bool (decide (l = l'))) ∧ Below w.heap.size w w' := by
  have hl : l.length = n := by have := h.len1; rwa [bls_len] at this
  have hl' : l'.length = n' := by have := h'.len1; rwa [bls_len] at this
  have H := Lib.hid h
  have H' := Lib.hid h'
  have HL := Lib.hid hl
  have HL' := Lib.hid hl'
  clear h h' hl hl'
  by_cases hnn : n = n'
  · subst hnn
    go_enter Try.func40, Try.ntmps40
    go_wp2_with fail
    go_loopw [5] (fun s5 wr => ∃ j mq : Nat, s5 = .int .i64 j ∧ j ≤ n ∧ Hid (∀ i, i < j → l[i]? = l'[i]?) ∧ wr = w.drewN mq) (fun s5 _ => n - (intOf s5).toNat)
    case atStart => exact ⟨0, 0, rfl, Nat.zero_le _, Lib.hid fun i hi => absurd hi (Nat.not_lt_zero _), rfl⟩
    case round =>
      obtain ⟨j, mq, rfl, hj, HE, rfl⟩ := hrel
      by_cases hlt : j < n
      · obtain ⟨x, hx⟩ : ∃ x, l[j]? = some x := ⟨l[j]'(by rw [HL.out]; exact hlt), List.getElem?_eq_getElem _⟩
        obtain ⟨y, hy⟩ : ∃ y, l'[j]? = some y := ⟨l'[j]'(by rw [HL'.out]; exact hlt), List.getElem?_eq_getElem _⟩
        obtain ⟨b, off, rfl, hb, hcs⟩ := H.out.at_ (Nat.lt_of_le_of_lt (Nat.zero_le _) hlt)
        obtain ⟨b', off', rfl, hb', hcs'⟩ := H'.out.at_ (Nat.lt_of_le_of_lt (Nat.zero_le _) hlt)
        have cx : w.cell? ⟨b, off + j, none⟩ = some (Value.bool x) := hcs j _ (bls_at hx)
        have cy : w.cell? ⟨b', off' + j, none⟩ = some (Value.bool y) := hcs' j _ (bls_at hy)
        have k1 : (0 : Int) ≤ (j : Int) := by omega
        have k2 : (j : Int) < (n : Int) := by omega
        by_cases hxy : x = y
        · have HE2 : Hid (∀ i, i < j + 1 → l[i]? = l'[i]?) := Lib.hid fun i hi => by
            rcases Nat.lt_or_ge i j with h | h
            · exact HE.out i h
            · obtain rfl : i = j := by omega
              rw [hx, hy, hxy]
          subst hxy
          have g1 : (x != x) = false := by simp
          clear hx hy hcs hcs'
          go_wp2_with fail
          go_quiet (fail)
          rw [World.drewN_drewN]
          go_wp2_with fail
          go_roundw
          case rel => exact ⟨j + 1, _, by go_num, by omega, HE2, rfl⟩
          case measure => simp [intOf]; omega
        · have g1 : (x != y) = true := by simpa using hxy
          have g2 : (!x == y) = true := by cases x <;> cases y <;> simp at hxy ⊢
          have HN : Hid (¬ l = l') := Lib.hid fun e => by rw [e, hy] at hx; injection hx with hx; exact hxy hx.symm
          clear hx hy hcs hcs' hxy
          go_wp2_with fail
          go_quiet (fail)
          rw [World.drewN_drewN]
          go_wp2_with fail
          go_ret
          exact ⟨by rw [decide_eq_false HN.out]; rfl, blw_draw (Below.refl _ _) _⟩
      · obtain rfl : j = n := by omega
        have HN : Hid (l = l') := Lib.hid (list_eq_of HL.out HL'.out HE.out)
        go_wp2_with fail
        go_ret
        exact ⟨by rw [decide_eq_true HN.out]; rfl, blw_draw (Below.refl _ _) _⟩
  · have HN : Hid (¬ l = l') := Lib.hid fun e => hnn (by rw [← HL.out, ← HL'.out, e])
    have g1 : ((n : Int) != (n' : Int)) = true := by simpa using (by omega : ¬ (n : Int) = (n' : Int))
    go_enter Try.func40, Try.ntmps40
    go_wp2_with fail
    go_ret
    exact ⟨by rw [decide_eq_false HN.out]; rfl, Below.refl _ _⟩
end Go.Proofs.Ytokpcpopibpebaa
