/-
  The iterator of a list's runs (truths): its contract.
-/
import Derived.Test.YtokpcpopibpebaaRangeOwn
import Derived.Test.YtokpcpopibpebaaColLaw
import Derived.Test.YtokpcpopibpebaaDropN
import Derived.Test.YtokpcpopibpebaaProg
import Derived.RangeFuncBound
import Derived.RangeFuncCalls
import Derived.RangeFuncLeaves
import Derived.Shelf.Abstract
import Derived.Shelf.RegionOpen
import Derived.WalkKit
import Derived.OwnWalkIn
import Derived.TacticsInMore
import Derived.LoopNIn
import Derived.LoopIn
import Derived.Deep.QuietTactic
import Derived.BigQuiet
namespace Go.Proofs.Ytokpcpopibpebaa
open Go Go.RowKit Go.Shelf
set_option linter.unusedVariables false
attribute [local go_sem] Oper.semAt_some

def bls (l : List Bool) : List Value := l.map fun (x : Bool) => Value.bool x
theorem bls_len (l : List Bool) : (bls l).length = l.length := by simp [bls]
theorem bls_at {l : List Bool} {k : Nat} {x : Bool} (h : l[k]? = some x) : (bls l)[k]? = some (Value.bool x) := by simp [bls, h]
theorem bls_drop (l : List Bool) (k : Nat) : (bls l).drop k = bls (l.drop k) := by simp [bls, List.map_drop]

set_option maxRecDepth 100000 in
set_option maxHeartbeats 1000000 in
theorem bmk_any (n : Nat) (A : Option Addr) (len cap : Nat) (w : World) :
    CallsIn Fence.wide n Try.prog 43 #[.slice A len cap] w fun e w' => e = .returned (.func (.func 47) #[] #[.pointer (some ⟨w.heap.size, 0, none⟩)]) ∧ w' = w.alloc (.cells #[.slice A len cap] 39) := by
  refine callsIn_of_wp Try.func43 rfl trivial ?_ rfl
  simp only [Try.ntmps43, List.size_toArray, List.length_cons, List.length_nil, Nat.reduceAdd, Nat.reduceSub, Array.replicate_succ, Array.replicate_zero, List.push_toArray, List.append_toArray, List.nil_append, List.cons_append]
  gi_wp2
  go_ret
  exact ⟨rfl, rfl⟩

/-- how many are left in the box -/
def bleft (Bl : Nat) (w : World) : Nat := match w.cell? ⟨Bl, 0, none⟩ with | some (.slice _ m _) => m | _ => 0
theorem bleft_eq {Bl : Nat} {w : World} {A : Option Addr} {m c : Nat} {t : TypeId} (h : Boxed w Bl t (.slice A m c)) : bleft Bl w = m := by unfold bleft; rw [h.cell]

/-- what holds at the head of a round -/
structure bAt (J : List (Nat × Bool) → (Nat → Prop) → World → Prop) (n₀ Bl : Nat) (zs : List Bool) (A : Option Addr) (m c : Nat) (L : List Bool) (pre : List (Nat × Bool)) (T : Nat → Prop) (wr : World) : Prop where
  inv : J pre T wr
  box : Boxed wr Bl 39 (.slice A m c)
  rd : Rd wr n₀ 1 A m (bls L)
  all : pre ++ runs L = runs zs
  ownL : T Bl
  low : ∀ j, T j → n₀ ≤ j
  cap : m ≤ c
  max : c ≤ maxLen

theorem bAt.len {J : List (Nat × Bool) → (Nat → Prop) → World → Prop} {n₀ Bl : Nat} {zs : List Bool} {A : Option Addr} {m c : Nat} {L : List Bool} {pre : List (Nat × Bool)} {T : Nat → Prop} {wr : World} (h : bAt J n₀ Bl zs A m c L pre T wr) : L.length = m := by
  have := h.rd.len1; rwa [bls_len] at this

set_option maxRecDepth 100000 in
set_option maxHeartbeats 2000000 in
theorem bruns1_in (n : Nat) (hn : 1 ≤ n) (l Bl n₀ : Nat) (A0 : Option Addr) (len cap : Nat) (zs : List Bool) (hcap : len ≤ cap) (hmax : cap ≤ maxLen) (J : List (Nat × Bool) → (Nat → Prop) → World → Prop) (Jx : List (Nat × Bool) → World → Prop) (hJ : AbidesT J)
    (hY : ∀ pre T (x : Nat × Bool) W1, J pre T W1 → pre ++ [x] <+: runs zs → YieldAt Fence.wide (n - 1) Try.prog l #[.int .i64 (x.1 : Int), Value.bool x.2] W1 fun e W' =>
      (e = .returned (.bool true) ∧ J (pre ++ [x]) T W' ∧ Below n₀ W1 W' ∧ KeepsT T W1 W') ∨ (e = .returned (.bool false) ∧ Jx (pre ++ [x]) W'))
    (W : World) (hBl : Boxed W Bl 39 (.slice A0 len cap)) (hR : Rd W n₀ 1 A0 len (bls zs)) (T0 : Nat → Prop) (hT0 : T0 Bl) (hT0n : ∀ k, T0 k → n₀ ≤ k) (h0 : J [] T0 W) :
    CallsIn Fence.wide n Try.prog 47 #[.func (.yield l) #[] #[], .pointer (some ⟨Bl, 0, none⟩)] W fun e W' => (∃ v, e = .returned v) ∧ ((∃ T, J (runs zs) T W') ∨ (∃ pre, pre <+: runs zs ∧ Jx pre W')) := by
  have HJ := Lib.hid hJ
  have HY := Lib.hid hY
  have H0 : Hid (bAt J n₀ Bl zs A0 len cap zs [] T0 W) := Lib.hid ⟨h0, hBl, hR, rfl, hT0, hT0n, hcap, hmax⟩
  clear hJ hY hBl hR hT0 hT0n h0 hcap hmax
  refine callsIn_of_wp Try.func47 rfl trivial ?_ rfl
  simp only [Try.ntmps47, List.size_toArray, List.length_cons, List.length_nil, Nat.reduceAdd, Nat.reduceSub, Array.replicate_succ, Array.replicate_zero, List.push_toArray, List.append_toArray, List.nil_append, List.cons_append]
  gi_wp2_with fail
  gi_loopw [3] (fun _ wr => ∃ (A : Option Addr) (m c : Nat) (L : List Bool) (pre : List (Nat × Bool)) (T : Nat → Prop), bAt J n₀ Bl zs A m c L pre T wr) (fun _ wr => bleft Bl wr)
  case atStart => exact ⟨_, _, _, _, _, _, H0.out⟩
  case round =>
    obtain ⟨A, m, c, L, pre, T, hA⟩ := hrel
    have HA := Lib.hid hA
    have cl := hA.box.cell
    have fl := hA.box.frozen
    have hlm := hA.len
    have hcm := hA.cap
    have hmm := hA.max
    unfold maxLen at hmm
    have HLM := Lib.hid hlm
    clear hA hlm
    by_cases hm : 0 < m
    · obtain ⟨x, hx⟩ : ∃ x, L[0]? = some x := ⟨L[0]'(by rw [HLM.out]; exact hm), List.getElem?_eq_getElem _⟩
      obtain ⟨b, off, rfl, hb, hcs⟩ := HA.out.rd.at_ hm
      have HCS : Hid (∀ j y, L[j]? = some y → wr.cell? ⟨b, off + j, none⟩ = some (Value.bool y)) := Lib.hid fun j y hy => hcs j _ (bls_at hy)
      have c0 : wr.cell? ⟨b, off, none⟩ = some (Value.bool x) := HCS.out 0 x hx
      have HX := Lib.hid hx
      clear hcs hx
      gi_wp2_with fail
      gi_loopw [3] (fun s wq => ∃ (k mq : Nat), s = .int .i64 k ∧ 1 ≤ k ∧ k ≤ m ∧ Hid (∀ j, j < k → L[j]? = some x) ∧ wq = wr.drewN mq) (fun s _ => m - (intOf s).toNat)
      case atStart => exact ⟨1, 0, rfl, Nat.le_refl _, hm, Lib.hid fun j hj => by obtain rfl : j = 0 := by omega
                                                                                  exact HX.out, rfl⟩
      case round =>
        obtain ⟨k, mq, rfl, h1k, hkm, hall, rfl⟩ := hrel
        have hki : (0 : Int) ≤ (k : Int) := by omega
        have hki2 : (k : Int) ≤ (c : Int) := by omega
        have hki3 : (k : Int) ≤ (m : Int) := by omega
        by_cases hlt : k < m
        · obtain ⟨y, hy⟩ : ∃ y, L[k]? = some y := ⟨L[k]'(by rw [HLM.out]; exact hlt), List.getElem?_eq_getElem _⟩
          have ck : wr.cell? ⟨b, off + k, none⟩ = some (Value.bool y) := HCS.out k y hy
          have ik : (k : Int) < (m : Int) := by omega
          by_cases hxy : y = x
          · have HY2 : Hid (∀ j, j < k + 1 → L[j]? = some x) := Lib.hid fun j hj => by
              rcases Nat.lt_or_ge j k with h | h
              · exact hall.out j h
              · obtain rfl : j = k := by omega
                rw [hy, hxy]
            subst hxy
            clear hy
            gi_wp2_with fail
            refine wpIn_wide.2 ?_
            go_quiet (fail)
            rw [World.drewN_drewN]
            gi_wp2_with fail
            go_roundw
            case rel => exact ⟨k + 1, _, by go_num, by omega, by omega, HY2, rfl⟩
            case measure => simp [intOf]; omega
          · have HF : Hid (runs L = (k, x) :: runs (L.drop k)) := Lib.hid (runs_first h1k hall.out (.inr ⟨y, hy, hxy⟩))
            have gxy : (y == x) = false := by simpa using hxy
            clear hy hxy
            gi_wp2_with fail
            refine wpIn_wide.2 ?_
            go_quiet (fail)
            rw [World.drewN_drewN]
            generalize mq + nq = q
            clear ck
            have hJd : J pre T (wr.drewN q) := HJ.out _ _ _ _ _ HA.out.inv (Moves.drewN (Moves.refl _ _) q) (Turns.refl _ _ _)
            have hpre : pre ++ [(k, x)] <+: runs zs := by
              have h1 := HA.out.all
              rw [HF.out] at h1
              exact ⟨runs (L.drop k), by rw [← h1]; simp⟩
            obtain ⟨fn, tmps, assign, body, hy, hR⟩ := HY.out pre T (k, x) _ hJd hpre
            simp only at hy
            have HRo := Lib.hid hR
            have HPR := Lib.hid hpre
            clear hR hJd hpre
            gi_wp2_with fail
            refine HRo.out.mono ?_
            rintro e W5 (⟨rfl, hJ5, hk5, hT5⟩ | ⟨rfl, hJx⟩)
            · have B5 : Boxed W5 Bl 39 (.slice (some ⟨b, off, none⟩) m c) := (hT5.same _ HA.out.ownL).trans HA.out.box
              have RD5 : Rd W5 n₀ 1 (some ⟨b, off, none⟩) m (bls L) := (HA.out.rd.keep (w' := wr.drewN q) fun _ _ => rfl).below hk5
              have hsub := RD5.dropN (k := k) (c := c) hkm hcm
              obtain ⟨A', hA', hA2⟩ : ∃ A', (if c = k then (some ⟨b, off, none⟩ : Option Addr) else some ⟨b, off + k, none⟩) = A' ∧ A' = some ⟨b, off + k, none⟩ := ⟨_, rfl, if_neg (by omega)⟩
              simp only [Nat.mul_one, Option.map_some, addr_add] at hsub
              rw [hA', bls_drop] at hsub
              have lB5 := B5.cell
              have fB5 := B5.frozen
              have HA5 : Hid (bAt J n₀ Bl zs A' (m - k) (c - k) (L.drop k) (pre ++ [(k, x)]) T (W5.setCell ⟨Bl, 0, none⟩ (.slice A' (m - k) (c - k)))) := Lib.hid
                ⟨HJ.out _ _ _ _ _ hJ5 ((Moves.refl _ _).setCell (.inl HA.out.ownL) _) (Turns.refl _ _ _), B5.set _, hsub.below ((Below.refl n₀ W5).setCell (p := ⟨Bl, 0, none⟩) (HA.out.low _ HA.out.ownL) _), by have := HA.out.all; rw [HF.out] at this; rw [← this]; simp, HA.out.ownL, HA.out.low, by omega, by unfold maxLen; omega⟩
              have hleft : bleft Bl (W5.setCell ⟨Bl, 0, none⟩ (.slice A' (m - k) (c - k))) < bleft Bl wr := by
                rw [bleft_eq HA5.out.box, bleft_eq HA.out.box]; omega
              have HLE := Lib.hid hleft
              clear hJ5 hk5 hT5 B5 RD5 hsub hleft
              subst hA2
              gi_wp2_with fail
              go_roundw
              case rel => exact ⟨_, _, _, _, _, _, HA5.out⟩
              case measure => exact HLE.out
            · gi_wp2_with fail
              refine bodyPost_ret (results_none rfl _ _ _) rfl ?_
              exact ⟨⟨_, rfl⟩, .inr ⟨_, HPR.out, hJx⟩⟩
        · have HF : Hid (runs L = (k, x) :: runs (L.drop k)) := Lib.hid (runs_first h1k hall.out (.inl (by have := HLM.out; omega)))
          have gkm : decide (k < m) = false := by simp; omega
          gi_wp2_with fail
          refine wpIn_wide.2 ?_
          go_quiet (fail)
          rw [World.drewN_drewN]
          generalize mq + nq = q
          have hJd : J pre T (wr.drewN q) := HJ.out _ _ _ _ _ HA.out.inv (Moves.drewN (Moves.refl _ _) q) (Turns.refl _ _ _)
          have hpre : pre ++ [(k, x)] <+: runs zs := by
            have h1 := HA.out.all
            rw [HF.out] at h1
            exact ⟨runs (L.drop k), by rw [← h1]; simp⟩
          obtain ⟨fn, tmps, assign, body, hy, hR⟩ := HY.out pre T (k, x) _ hJd hpre
          simp only at hy
          have HRo := Lib.hid hR
          have HPR := Lib.hid hpre
          clear hR hJd hpre
          gi_wp2_with fail
          refine HRo.out.mono ?_
          rintro e W5 (⟨rfl, hJ5, hk5, hT5⟩ | ⟨rfl, hJx⟩)
          · have B5 : Boxed W5 Bl 39 (.slice (some ⟨b, off, none⟩) m c) := (hT5.same _ HA.out.ownL).trans HA.out.box
            have RD5 : Rd W5 n₀ 1 (some ⟨b, off, none⟩) m (bls L) := (HA.out.rd.keep (w' := wr.drewN q) fun _ _ => rfl).below hk5
            have hsub := RD5.dropN (k := k) (c := c) hkm hcm
            obtain ⟨A', hA'⟩ : ∃ A', (if c = k then (some ⟨b, off, none⟩ : Option Addr) else some ⟨b, off + k, none⟩) = A' := ⟨_, rfl⟩
            simp only [Nat.mul_one, Option.map_some, addr_add] at hsub
            rw [hA', bls_drop] at hsub
            have lB5 := B5.cell
            have fB5 := B5.frozen
            have HA5 : Hid (bAt J n₀ Bl zs A' (m - k) (c - k) (L.drop k) (pre ++ [(k, x)]) T (W5.setCell ⟨Bl, 0, none⟩ (.slice A' (m - k) (c - k)))) := Lib.hid
              ⟨HJ.out _ _ _ _ _ hJ5 ((Moves.refl _ _).setCell (.inl HA.out.ownL) _) (Turns.refl _ _ _), B5.set _, hsub.below ((Below.refl n₀ W5).setCell (p := ⟨Bl, 0, none⟩) (HA.out.low _ HA.out.ownL) _), by have := HA.out.all; rw [HF.out] at this; rw [← this]; simp, HA.out.ownL, HA.out.low, by omega, by unfold maxLen; omega⟩
            have hleft : bleft Bl (W5.setCell ⟨Bl, 0, none⟩ (.slice A' (m - k) (c - k))) < bleft Bl wr := by
              rw [bleft_eq HA5.out.box, bleft_eq HA.out.box]; omega
            have HLE := Lib.hid hleft
            clear hJ5 hk5 hT5 B5 RD5 hsub hleft
            gi_wp2_with fail
            go_roundw
            case rel => exact ⟨_, _, _, _, _, _, HA5.out⟩
            case measure => exact HLE.out
          · gi_wp2_with fail
            refine bodyPost_ret (results_none rfl _ _ _) rfl ?_
            exact ⟨⟨_, rfl⟩, .inr ⟨_, HPR.out, hJx⟩⟩
    · obtain rfl : m = 0 := by omega
      have hnil : L = [] := List.eq_nil_of_length_eq_zero HLM.out
      have hall : pre = runs zs := by have := HA.out.all; rw [hnil, runs_nil] at this; simpa using this
      have HAL := Lib.hid hall
      clear hall hnil
      gi_wp2_with fail
      go_end0
      exact ⟨⟨_, rfl⟩, .inl ⟨T, HAL.out ▸ HA.out.inv⟩⟩
end Go.Proofs.Ytokpcpopibpebaa
