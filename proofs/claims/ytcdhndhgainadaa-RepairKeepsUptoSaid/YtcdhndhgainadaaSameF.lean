/-
  The contracts of the comparisons: of attributes, of pieces, of trees.
-/
import Derived.Test.YtcdhndhgainadaaOpenR
import Derived.Deep.QuietTactic
import Derived.BigQuiet
namespace Go.Proofs.Ytcdhndhgainadaa
open Go Go.RowKit
set_option linter.unusedVariables false
set_option linter.unusedSimpArgs false

theorem list_eq_of {α : Type} {l l' : List α} {n : Nat} (hl : l.length = n) (hl' : l'.length = n) (h : ∀ j, j < n → l[j]? = l'[j]?) : l = l' := by
  apply List.ext_getElem?
  intro j
  rcases Nat.lt_or_ge j n with h1 | h1
  · exact h j h1
  · rw [List.getElem?_eq_none (by omega), List.getElem?_eq_none (by omega)]
theorem acells_at {xs : List Att} {j : Nat} {x : Att} (h : xs[j]? = some x) : (acells xs)[j * 2]? = some (.string x.1) ∧ (acells xs)[j * 2 + 1]? = some (.string x.2) :=
  ⟨flatN (fun a : Att => [.string a.1, .string a.2]) 2 (fun _ => rfl) xs j x 0 h (by decide), flatN (fun a : Att => [.string a.1, .string a.2]) 2 (fun _ => rfl) xs j x 1 h (by decide)⟩

set_option maxRecDepth 100000 in
set_option maxHeartbeats 2000000 in
theorem same15_any {w : World} {B B' : Nat} {A A' : Option Addr} {n n' c c' : Nat} {xs xs' : List Att} (h : RdA w B A n c xs) (h' : RdA w B' A' n' c' xs') :
    Calls Try.prog 32 #[.slice A n c, .slice A' n' c'] w fun e w' => e = .returned (.bool (decide (xs = xs'))) ∧ ∃ k : Nat, w' = w.drewN k := by
  have hl := h.len
  have hl' := h'.len
  have hn : n ≤ 9223372036854775807 := Nat.le_trans h.cap h.max
  have hn' : n' ≤ 9223372036854775807 := Nat.le_trans h'.cap h'.max
  have H := Lib.hid h.row
  have H' := Lib.hid h'.row
  have HL := Lib.hid hl
  have HL' := Lib.hid hl'
  clear h h' hl hl'
  by_cases hnn : n = n'
  · subst hnn
    go_enter Try.func32, Try.ntmps32
    go_wp2_with fail
    go_loopw [5] (fun s5 wr => ∃ j mq : Nat, s5 = .int .i64 j ∧ j ≤ n ∧ Hid (∀ i, i < j → xs[i]? = xs'[i]?) ∧ wr = w.drewN mq) (fun s5 _ => n - (intOf s5).toNat)
    case atStart => exact ⟨0, 0, rfl, Nat.zero_le _, Lib.hid fun i hi => absurd hi (Nat.not_lt_zero _), rfl⟩
    case round =>
      obtain ⟨j, mq, rfl, hj, HE, rfl⟩ := hrel
      by_cases hlt : j < n
      · obtain ⟨x, hx⟩ : ∃ x, xs[j]? = some x := ⟨xs[j]'(by rw [HL.out]; exact hlt), List.getElem?_eq_getElem _⟩
        obtain ⟨y, hy⟩ : ∃ y, xs'[j]? = some y := ⟨xs'[j]'(by rw [HL'.out]; exact hlt), List.getElem?_eq_getElem _⟩
        obtain ⟨b, off, rfl, hb, hcs⟩ := H.out.at_ (Nat.lt_of_le_of_lt (Nat.zero_le _) hlt)
        obtain ⟨b', off', rfl, hb', hcs'⟩ := H'.out.at_ (Nat.lt_of_le_of_lt (Nat.zero_le _) hlt)
        have cx : w.cell? ⟨b, off + j * 2, none⟩ = some (Value.string x.1) := hcs _ _ (acells_at hx).1
        have cx1 : w.cell? ⟨b, off + j * 2 + 1, none⟩ = some (Value.string x.2) := hcs _ _ (acells_at hx).2
        have cy : w.cell? ⟨b', off' + j * 2, none⟩ = some (Value.string y.1) := hcs' _ _ (acells_at hy).1
        have cy1 : w.cell? ⟨b', off' + j * 2 + 1, none⟩ = some (Value.string y.2) := hcs' _ _ (acells_at hy).2
        have HXY : Hid (x ≠ y → xs ≠ xs') := Lib.hid fun h e => h (by rw [e, hy] at hx; exact (Option.some.inj hx).symm)
        have k1 : (0 : Int) ≤ (j : Int) := by omega
        have k2 : (j : Int) < (n : Int) := by omega
        obtain ⟨x1, x2⟩ := x
        obtain ⟨y1, y2⟩ := y
        simp only at cx cx1 cy cy1
        by_cases hxy : x1 = y1
        · subst hxy
          by_cases hxy2 : x2 = y2
          · subst hxy2
            have HE2 : Hid (∀ i, i < j + 1 → xs[i]? = xs'[i]?) := Lib.hid fun i hi => by
              rcases Nat.lt_or_ge i j with h | h
              · exact HE.out i h
              · obtain rfl : i = j := by omega
                rw [hx, hy]
            clear hx hy hcs hcs' HXY
            go_wp2_with fail
            go_quiet (fail)
            rw [World.drewN_drewN]
            go_wp2_with fail
            go_roundw
            case rel => exact ⟨j + 1, _, by go_num, by omega, HE2, rfl⟩
            case measure => simp [intOf]; omega
          · have g3 := beqs hxy2
            have g4 := bne_f g3
            have HN : Hid (xs ≠ xs') := Lib.hid (HXY.out fun e => hxy2 (Prod.mk.inj e).2)
            clear hx hy hcs hcs' HXY
            go_wp2_with fail
            go_quiet (fail)
            rw [World.drewN_drewN]
            go_wp2_with fail
            go_ret
            exact ⟨by rw [decide_eq_false HN.out]; rfl, _, rfl⟩
        · have g1 := beqs hxy
          have g2 := bne_f g1
          have HN : Hid (xs ≠ xs') := Lib.hid (HXY.out fun e => hxy (Prod.mk.inj e).1)
          clear hx hy hcs hcs' HXY
          go_wp2_with fail
          go_quiet (fail)
          rw [World.drewN_drewN]
          go_wp2_with fail
          go_ret
          exact ⟨by rw [decide_eq_false HN.out]; rfl, _, rfl⟩
      · obtain rfl : j = n := by omega
        have HN : Hid (xs = xs') := Lib.hid (list_eq_of HL.out HL'.out HE.out)
        go_wp2_with fail
        go_ret
        exact ⟨by rw [decide_eq_true HN.out]; rfl, _, rfl⟩
  · have HN : Hid (¬ xs = xs') := Lib.hid fun e => hnn (by rw [← HL.out, ← HL'.out, e])
    have g1 : ((n : Int) != (n' : Int)) = true := by simpa using (by omega : ¬ (n : Int) = (n' : Int))
    go_enter Try.func32, Try.ntmps32
    go_wp2_with fail
    go_ret
    exact ⟨by rw [decide_eq_false HN.out]; rfl, 0, rfl⟩

theorem PcR.two {w : World} {B : Nat} {v : List Value} {p : Pce} (h : PcR w B v p) : ∃ A n c, v = [.string p.1, .slice A n c] ∧ RdA w B A n c p.2 := by
  cases h with
  | mk s A n c xs h => exact ⟨A, n, c, rfl, h⟩
theorem vz_at {α : Type} {sz : Nat} {zs : List (Z α sz)} {i : Nat} {z : Z α sz} (h : zs[i]? = some z) : (vz zs)[i]? = some z.1.2 := by rw [vz, List.getElem?_map, h]; rfl
theorem RdA.drewN {w : World} {B : Nat} {A : Option Addr} {n c : Nat} {xs : List Att} (h : RdA w B A n c xs) (k : Nat) : RdA (w.drewN k) B A n c xs := h.keep (Nat.le_refl _) fun _ _ => rfl
theorem bxor_ff (a : Bool) (h : a = true) : (!a) = false := by rw [h]; rfl

set_option maxRecDepth 100000 in
set_option maxHeartbeats 2000000 in
theorem same17_any {w : World} {B B' : Nat} {A A' : Option Addr} {n n' c c' : Nat} {ps ps' : List Pce} (h : RdP w B A n c ps) (h' : RdP w B' A' n' c' ps') :
    Calls Try.prog 31 #[.slice A n c, .slice A' n' c'] w fun e w' => e = .returned (.bool (decide (ps = ps'))) ∧ ∃ k : Nat, w' = w.drewN k := by
  have hl := h.length
  have hl' := h'.length
  obtain ⟨zs, rfl, h⟩ := h
  obtain ⟨zs', rfl, h'⟩ := h'
  have hn : n ≤ 9223372036854775807 := Nat.le_trans h.cap h.max
  have hn' : n' ≤ 9223372036854775807 := Nat.le_trans h'.cap h'.max
  have H := Lib.hid h
  have H' := Lib.hid h'
  have HL := Lib.hid hl
  have HL' := Lib.hid hl'
  clear h h' hl hl'
  by_cases hnn : n = n'
  · subst hnn
    go_enter Try.func31, Try.ntmps31
    go_wp2_with fail
    go_loopw [5] (fun s5 wr => ∃ j mq : Nat, s5 = .int .i64 j ∧ j ≤ n ∧ Hid (∀ i, i < j → (vz zs)[i]? = (vz zs')[i]?) ∧ wr = w.drewN mq) (fun s5 _ => n - (intOf s5).toNat)
    case atStart => exact ⟨0, 0, rfl, Nat.zero_le _, Lib.hid fun i hi => absurd hi (Nat.not_lt_zero _), rfl⟩
    case round =>
      obtain ⟨j, mq, rfl, hj, HE, rfl⟩ := hrel
      by_cases hlt : j < n
      · obtain ⟨b, off, z, rfl, hb, hz, -, hR, hcs⟩ := H.out.at_ (by decide) hlt
        obtain ⟨b', off', z', rfl, hb', hz', -, hR', hcs'⟩ := H'.out.at_ (by decide) hlt
        obtain ⟨MA, mn, mc, e1, hA⟩ := hR.two
        obtain ⟨MA', mn', mc', e1', hA'⟩ := hR'.two
        have hx := vz_at hz
        have hy := vz_at hz'
        obtain ⟨⟨zv, x1, x2⟩, zl⟩ := z
        obtain ⟨⟨zv', y1, y2⟩, zl'⟩ := z'
        simp only at e1 e1' hA hA' hcs hcs' hx hy
        subst e1 e1'
        obtain ⟨wm, HWM⟩ : ∃ wm, Hid (wm = w.drewN mq) := ⟨_, Lib.hid rfl⟩
        have hcw : ∀ q, wm.cell? q = w.cell? q := fun q => by rw [HWM.out]; rfl
        rw [← HWM.out]
        have cx : wm.cell? ⟨b, off + j * 2, none⟩ = some (Value.string x1) := (hcw _).trans (hcs 0 _ rfl)
        have cx1 : wm.cell? ⟨b, off + j * 2 + 1, none⟩ = some (Value.slice MA mn mc) := (hcw _).trans (hcs 1 _ rfl)
        have cy : wm.cell? ⟨b', off' + j * 2, none⟩ = some (Value.string y1) := (hcw _).trans (hcs' 0 _ rfl)
        have cy1 : wm.cell? ⟨b', off' + j * 2 + 1, none⟩ = some (Value.slice MA' mn' mc') := (hcw _).trans (hcs' 1 _ rfl)
        have HXY : Hid ((x1, x2) ≠ (y1, y2) → vz zs ≠ vz zs') := Lib.hid fun h e => h (by rw [e, hy] at hx; exact (Option.some.inj hx).symm)
        have k1 : (0 : Int) ≤ (j : Int) := by omega
        have k2 : (j : Int) < (n : Int) := by omega
        obtain ⟨q, hq⟩ : ∃ q : Bool, q = decide (x2 = y2) := ⟨_, rfl⟩
        have HC : ∀ k : Nat, Calls Try.prog 32 #[.slice MA mn mc, .slice MA' mn' mc'] (wm.drewN k) fun e w'' => e = .returned (.bool q) ∧ ∃ m, w'' = wm.drewN m := fun k => by
          rw [hq]
          exact Calls.quiet_of (same15_any ((hA.keep (Nat.le_refl _) fun q _ => hcw q).drewN k) ((hA'.keep (Nat.le_refl _) fun q _ => hcw q).drewN k))
        by_cases hxy : x1 = y1
        · subst hxy
          have HQ : Hid (q = true → (vz zs)[j]? = (vz zs')[j]?) := Lib.hid fun e => by
            rw [e] at hq
            rw [hx, hy, of_decide_eq_true hq.symm]
          have HQN : Hid (q = false → vz zs ≠ vz zs') := Lib.hid fun e => by
            rw [e] at hq
            exact HXY.out fun e2 => of_decide_eq_false hq.symm (Prod.mk.inj e2).2
          clear hx hy hcs hcs' HXY hz hz' hR hR' hA hA' zl zl' hq hcw
          cases q
          · have HN := Lib.hid (HQN.out rfl)
            clear HQN HQ
            go_wp2_with fail
            go_quiet (first | (go_at_call 32; exact HC _))
            go_wp2_with fail
            go_quiet (fail)
            rw [World.drewN_drewN, HWM.out, World.drewN_drewN]
            go_wp2_with fail
            go_ret
            exact ⟨by rw [decide_eq_false HN.out]; rfl, _, rfl⟩
          · have HE2 : Hid (∀ i, i < j + 1 → (vz zs)[i]? = (vz zs')[i]?) := Lib.hid fun i hi => by
              rcases Nat.lt_or_ge i j with h | h
              · exact HE.out i h
              · obtain rfl : i = j := by omega
                exact HQ.out rfl
            clear HQN HQ
            go_wp2_with fail
            go_quiet (first | (go_at_call 32; exact HC _))
            go_wp2_with fail
            go_quiet (fail)
            rw [World.drewN_drewN, HWM.out, World.drewN_drewN]
            go_wp2_with fail
            go_roundw
            case rel => exact ⟨j + 1, _, by go_num, by omega, HE2, rfl⟩
            case measure => simp [intOf]; omega
        · have g1 := beqs hxy
          have g2 := bne_f g1
          have HN : Hid (vz zs ≠ vz zs') := Lib.hid (HXY.out fun e => hxy (Prod.mk.inj e).1)
          clear hx hy hcs hcs' HXY hz hz' hR hR' hA hA' zl zl' hq hcw
          cases q
          all_goals
            go_wp2_with fail
            go_quiet (first | (go_at_call 32; exact HC _))
            go_wp2_with fail
            go_quiet (fail)
            rw [World.drewN_drewN, HWM.out, World.drewN_drewN]
            go_wp2_with fail
            go_ret
            exact ⟨by rw [decide_eq_false HN.out]; rfl, _, rfl⟩
      · obtain rfl : j = n := by omega
        have HN : Hid (vz zs = vz zs') := Lib.hid (list_eq_of HL.out HL'.out HE.out)
        go_wp2_with fail
        go_ret
        exact ⟨by rw [decide_eq_true HN.out]; rfl, _, rfl⟩
  · have HN : Hid (¬ vz zs = vz zs') := Lib.hid fun e => hnn (by rw [← HL.out, ← HL'.out, e])
    have g1 : ((n : Int) != (n' : Int)) = true := by simpa using (by omega : ¬ (n : Int) = (n' : Int))
    go_enter Try.func31, Try.ntmps31
    go_wp2_with fail
    go_ret
    exact ⟨by rw [decide_eq_false HN.out]; rfl, 0, rfl⟩
end Go.Proofs.Ytcdhndhgainadaa
