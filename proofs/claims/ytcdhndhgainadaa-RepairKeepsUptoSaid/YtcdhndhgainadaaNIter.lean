/-
  The iterator of a row's runs of one sort: its contract.
-/
import Derived.Test.YtcdhndhgainadaaSortF
import Derived.Test.YtcdhndhgainadaaRangeGive
import Derived.Test.YtcdhndhgainadaaDropN
import Derived.Test.YtcdhndhgainadaaHeldAt
import Derived.RangeFuncBound
import Derived.RangeFuncCalls
import Derived.RangeFuncLeaves
import Derived.Shelf.Abstract
import Derived.Shelf.RegionOpen
import Derived.WalkKit
import Derived.OwnWalkIn
import Derived.TacticsInMore
import Derived.LoopNIn
import Derived.LoopIn
import Derived.Deep.QuietTactic
import Derived.BigQuiet
namespace Go.Proofs.Ytcdhndhgainadaa
open Go Go.RowKit Go.Shelf
set_option linter.unusedVariables false
set_option linter.unusedSimpArgs false
attribute [local go_sem] Oper.semAt_some

/-! ### plainly -/
def AllBy (f : RT → Srt) (s : Srt) (l : List RT) : Prop := ∀ t ∈ l, f t = s
theorem runsBy_first {f : RT → Srt} {s : Srt} : ∀ {k : Nat} {L : List RT}, 1 ≤ k → (∀ j t, j < k → L[j]? = some t → f t = s) → k ≤ L.length → (k = L.length ∨ ∃ t, L[k]? = some t ∧ f t ≠ s) → runsBy f L = (s, L.take k) :: runsBy f (L.drop k)
  | 0, _, h, _, _, _ => by omega
  | k + 1, [], _, _, h, _ => by simp at h
  | k + 1, t :: ts, _, hall, hle, hend => by
    have h0 : f t = s := hall 0 t (by omega) rfl
    rcases Nat.eq_zero_or_pos k with hk | hk
    · subst hk
      rw [runsBy]
      cases ts with
      | nil => simp [runsBy, h0]
      | cons u us =>
        have hu : f u ≠ s := by
          rcases hend with h | ⟨v, hv, h⟩
          · simp at h
          · simp at hv; subst hv; exact h
        cases hr : runsBy f (u :: us) with
        | nil =>
          have := runsBy_flat f (u :: us)
          rw [hr] at this; simp at this
        | cons q rest =>
          obtain ⟨s', r⟩ := q
          have hs' : s' = f u := by
            have h1 := runsBy_flat f (u :: us)
            have h2 := runsBy_all f (u :: us) (s', r) (by rw [hr]; simp)
            rw [hr] at h1
            simp only [List.flatMap_cons] at h1
            cases r with
            | nil => exact absurd rfl h2.1
            | cons z zs =>
              injection h1 with h3 h4
              have := h2.2 z (by simp)
              simp only at this
              rw [← this, h3]
          have hne : f t ≠ s' := by rw [h0, hs']; exact fun e => hu e.symm
          simp only [if_neg hne]
          simp [hr, h0]
    · have ih := runsBy_first (f := f) (s := s) (k := k) (L := ts) hk (fun j u hj hu => hall (j + 1) u (by omega) (by simpa using hu)) (by simpa using hle) (hend.imp (by simp) (fun ⟨u, hu, h⟩ => ⟨u, by simpa using hu, h⟩))
      rw [runsBy, ih]
      simp [h0]
theorem runsBy_nil (f : RT → Srt) : runsBy f [] = [] := rfl
theorem runsBy_len (f : RT → Srt) : ∀ l : List RT, (runsBy f l).length ≤ l.length
  | [] => by simp [runsBy]
  | t :: ts => by
    have := runsBy_len f ts
    rw [runsBy]
    cases hr : runsBy f ts with
    | nil => simp
    | cons q rest =>
      obtain ⟨s, r⟩ := q
      rw [hr] at this
      simp only
      split <;> simp at this ⊢ <;> omega

section
variable {w : World} {S : Nat → Prop} {A : Option Addr} {n c k : Nat} {ts : List RT}
theorem cz_take (zs : List (Z RT 6)) (k : Nat) : (cz zs).take (k * 6) = cz (zs.take k) := by
  induction zs generalizing k with
  | nil => simp [cz]
  | cons z zs ih =>
    cases k with
    | zero => simp [cz]
    | succ k =>
      have e1 : cz (z :: zs) = z.1.1 ++ cz zs := rfl
      have e2 : cz ((z :: zs).take (k + 1)) = z.1.1 ++ cz (zs.take k) := rfl
      rw [e1, e2, ← ih, List.take_append]
      have : (k + 1) * 6 - z.1.1.length = k * 6 := by rw [z.2]; omega
      rw [this, List.take_of_length_le (by rw [z.2]; omega)]
theorem cz_drop (zs : List (Z RT 6)) (k : Nat) : (cz zs).drop (k * 6) = cz (zs.drop k) := by
  induction zs generalizing k with
  | nil => simp [cz]
  | cons z zs ih =>
    cases k with
    | zero => simp
    | succ k =>
      have e1 : cz (z :: zs) = z.1.1 ++ cz zs := rfl
      rw [e1, List.drop_succ_cons, ← ih, List.drop_append]
      have : (k + 1) * 6 - z.1.1.length = k * 6 := by rw [z.2]; omega
      rw [this, List.drop_of_length_le (by rw [z.2]; omega), List.nil_append]
theorem vz_take (zs : List (Z RT 6)) (k : Nat) : vz (zs.take k) = (vz zs).take k := by simp [vz, List.map_take]
theorem vz_drop (zs : List (Z RT 6)) (k : Nat) : vz (zs.drop k) = (vz zs).drop k := by simp [vz, List.map_drop]
/-- the first k of a row -/
theorem RdN.take {B : Nat} (h : RdN w B A n c ts) (hk : k ≤ n) : RdN w B A k c (ts.take k) := by
  obtain ⟨zs, rfl, h⟩ := h
  refine ⟨zs.take k, vz_take _ _, ?_, by rw [List.length_take, h.len]; omega, fun z hz => h.all z (List.mem_of_mem_take hz), by have := h.cap; omega, h.max⟩
  rw [← cz_take]
  exact h.row.take hk
/-- a row from k on -/
theorem RdN.drop {B : Nat} (h : RdN w B A n c ts) (hk : k ≤ n) : RdN w B (if c = k then A else A.map (·.add (k * 6))) (n - k) (c - k) (ts.drop k) := by
  obtain ⟨zs, rfl, h⟩ := h
  refine ⟨zs.drop k, vz_drop _ _, ?_, by rw [List.length_drop, h.len], fun z hz => h.all z (List.mem_of_mem_drop hz), by have := h.cap; omega, by have := h.max; omega⟩
  rw [← cz_drop]
  exact h.row.dropN hk h.cap
/-- an element's kind, where it lies -/
theorem RdN.kindAt {j : Nat} (h : RdF w S A n c ts) (hj : j < n) : ∃ b off t, A = some ⟨b, off, none⟩ ∧ ts[j]? = some t ∧ b < w.heap.size ∧ S b ∧ w.cell? ⟨b, off + j * 6 + 2, none⟩ = some (.string t.kind) := by
  obtain ⟨zs, rfl, h⟩ := h
  obtain ⟨b, off, z, hA, hb, hz, hm, hR, hc⟩ := h.at_ (by decide) hj
  obtain ⟨u0, u1, u2, u3, u3n, u3c, u4, u4n, u4c, u5, u5n, u5c, ua, ut, uk, hsix, hup⟩ := hR.parts
  have hx := only_cell.1 (hc 2 (.string u2) (by rw [hsix]; rfl))
  refine ⟨b, off, z.1.2, hA, vz_at hz, hb, hx.1, ?_⟩
  rw [hup.tree]
  exact hx.2
end

set_option maxRecDepth 100000 in
set_option maxHeartbeats 1000000 in
theorem nmk_any (Bp n : Nat) (A : Option Addr) (len cap : Nat) (fv : Value) (w : World) (hf : fv = .func (.func 48) #[] #[.pointer (some ⟨Bp, 0, none⟩)]) :
    CallsIn Fence.wide n Try.prog 49 #[.slice A len cap, fv] w fun e w' => e = .returned (.func (.func 56) #[] #[.pointer (some ⟨w.heap.size, 0, none⟩), .pointer (some ⟨w.heap.size + 1, 0, none⟩)]) ∧
      w' = (w.alloc (.cells #[.slice A len cap] 29)).alloc (.cells #[fv] 60) := by
  subst hf
  refine callsIn_of_wp Try.func49 rfl trivial ?_ rfl
  simp only [Try.ntmps49, List.size_toArray, List.length_cons, List.length_nil, Nat.reduceAdd, Nat.reduceSub, Array.replicate_succ, Array.replicate_zero, List.push_toArray, List.append_toArray, List.nil_append, List.cons_append]
  gi_wp2
  go_ret
  exact ⟨rfl, rfl⟩

/-- what is given with a run -/
def EncN (n₀ : Nat) (S0 : Nat → Prop) (x : Srt × List RT) (U : Nat → Prop) (vs : Array Value) (W : World) : Prop :=
  (∀ b, U b → n₀ ≤ b) ∧ ∃ A m c, vs = #[.string x.1.str, .slice A m c] ∧ RdF W (fun b => S0 b ∨ U b) A m c x.2
/-- the closure -/
abbrev clo (Bp : Nat) : Value := .func (.func 48) #[] #[.pointer (some ⟨Bp, 0, none⟩)]
abbrev byP (p : ByteArray) (t : RT) : Srt := srt (kd p) t.kdOf
/-- of a kind that a row may bear -/
def Good (t : RT) : Prop := (kd t.kind).known = true ∧ kd t.kind ≠ .doc

/-- what holds at the head of a round -/
structure nAt (J : List (Srt × List RT) → (Nat → Prop) → World → Prop) (n₀ Bl Bs Bp : Nat) (p : ByteArray) (S0 : Nat → Prop) (ts : List RT) (A : Option Addr) (m c : Nat) (L : List RT) (pre : List (Srt × List RT)) (T : Nat → Prop) (wr : World) : Prop where
  inv : J pre T wr
  box : Boxed wr Bl 29 (.slice A m c)
  boxS : Boxed wr Bs 60 (clo Bp)
  boxP : Boxed wr Bp 9 (.string p)
  rd : RdF wr S0 A m c L
  all : pre ++ runsBy (byP p) L = runsBy (byP p) ts
  ownL : T Bl
  ownS : T Bs
  low : ∀ j, T j → n₀ ≤ j
  kinds : ∀ t ∈ L, Good t
  high : n₀ ≤ wr.heap.size
  hi : ∀ j, T j → j < wr.heap.size
  size : m ≤ 900000
  neS : Bl ≠ Bs
section
variable {J : List (Srt × List RT) → (Nat → Prop) → World → Prop} {n₀ Bl Bs Bp : Nat} {p : ByteArray} {S0 : Nat → Prop} {ts : List RT} {A : Option Addr} {m c : Nat} {L : List RT} {pre : List (Srt × List RT)} {T : Nat → Prop} {wr wq : World}
theorem nAt.below (h : nAt J n₀ Bl Bs Bp p S0 ts A m c L pre T wr) (hJ : AbidesT J) (hb : Below wr.heap.size wr wq) : nAt J n₀ Bl Bs Bp p S0 ts A m c L pre T wq :=
  ⟨hJ _ _ _ _ _ h.inv (Moves.of_below hb T) (Turns.refl _ _ _), (hb.block _ h.box.lt).trans h.box, (hb.block _ h.boxS.lt).trans h.boxS, (hb.block _ h.boxP.lt).trans h.boxP, h.rd.stay (.below hb fun _ _ h => h), h.all, h.ownL, h.ownS, h.low, h.kinds, Nat.le_trans h.high hb.size, fun j hj => Nat.lt_of_lt_of_le (h.hi j hj) hb.size, h.size, h.neS⟩
theorem nAt.len (h : nAt J n₀ Bl Bs Bp p S0 ts A m c L pre T wr) : L.length = m := h.rd.length
theorem nAt.caps (h : nAt J n₀ Bl Bs Bp p S0 ts A m c L pre T wr) : m ≤ c ∧ c ≤ 9223372036854775807 := by obtain ⟨zs, _, hz⟩ := h.rd; exact ⟨hz.cap, hz.max⟩
end
theorem left_eq {Bl : Nat} {w : World} {A : Option Addr} {m c : Nat} {t : TypeId} (h : Boxed w Bl t (.slice A m c)) : (match w.cell? ⟨Bl, 0, none⟩ with | some (.slice _ m _) => m | _ => 0) = m := by rw [h.cell]
def nleft (Bl : Nat) (w : World) : Nat := match w.cell? ⟨Bl, 0, none⟩ with | some (.slice _ m _) => m | _ => 0
theorem nleft_eq {Bl : Nat} {w : World} {A : Option Addr} {m c : Nat} {t : TypeId} (h : Boxed w Bl t (.slice A m c)) : nleft Bl w = m := by unfold nleft; rw [h.cell]

set_option maxRecDepth 100000 in
set_option maxHeartbeats 4000000 in
theorem nruns1_in (n : Nat) (hn : 1 ≤ n) (l Bl Bs Bp n₀ : Nat) (p : ByteArray) (hp : Par (kd p)) (S0 : Nat → Prop) (hS0 : ∀ b, S0 b → b < n₀) (A0 : Option Addr) (len cap : Nat) (ts : List RT)
    (J : List (Srt × List RT) → (Nat → Prop) → World → Prop) (Jx : List (Srt × List RT) → World → Prop) (hJ : AbidesT J) (hJP : ∀ s T W, J s T W → Boxed W Bp 9 (.string p))
    (hY : ∀ pre T U (x : Srt × List RT) vs W1, J pre (Both T U) W1 → EncN n₀ S0 x U vs W1 → (∀ k, U k → ¬ T k) → pre ++ [x] <+: runsBy (byP p) ts → YieldAt Fence.wide (n - 1) Try.prog l vs W1 fun e W' =>
      (e = .returned (.bool true) ∧ J (pre ++ [x]) T W' ∧ Below n₀ W1 W' ∧ KeepsT T W1 W') ∨ (e = .returned (.bool false) ∧ Jx (pre ++ [x]) W'))
    (W : World) (T0 : Nat → Prop) (h0 : nAt J n₀ Bl Bs Bp p S0 ts A0 len cap ts [] T0 W) :
    CallsIn Fence.wide n Try.prog 56 #[.func (.yield l) #[] #[], .pointer (some ⟨Bl, 0, none⟩), .pointer (some ⟨Bs, 0, none⟩)] W fun e W' => (∃ v, e = .returned v) ∧ ((∃ T, J (runsBy (byP p) ts) T W') ∨ (∃ pre, pre <+: runsBy (byP p) ts ∧ Jx pre W')) := by
  have HJ := Lib.hid hJ
  have HJP := Lib.hid hJP
  have HY := Lib.hid hY
  have H0 := Lib.hid h0
  have HP0 := Lib.hid hp
  have HS0 := Lib.hid hS0
  clear hJ hJP hY h0 hp hS0
  refine callsIn_of_wp Try.func56 rfl trivial ?_ rfl
  simp only [Try.ntmps56, List.size_toArray, List.length_cons, List.length_nil, Nat.reduceAdd, Nat.reduceSub, Array.replicate_succ, Array.replicate_zero, List.push_toArray, List.append_toArray, List.nil_append, List.cons_append]
  gi_wp2_with fail
  gi_loopw [4, 5] (fun _ _ wr => ∃ (A : Option Addr) (m c : Nat) (L : List RT) (pre : List (Srt × List RT)) (T : Nat → Prop), nAt J n₀ Bl Bs Bp p S0 ts A m c L pre T wr) (fun _ _ wr => nleft Bl wr)
  case atStart => exact ⟨_, _, _, _, _, _, H0.out⟩
  case round =>
    obtain ⟨A, m, c, L, pre, T, hA⟩ := hrel
    have HA := Lib.hid hA
    have cl := hA.box.cell
    have hcm := hA.caps.1
    have hmm := hA.caps.2
    have HLM := Lib.hid hA.len
    clear hA
    by_cases hm : 0 < m
    · obtain ⟨b, off, x, rfl, hx, hb, hsb, c0⟩ := HA.out.rd.kindAt hm
      have HX := Lib.hid hx
      have hgx := HA.out.kinds x (List.mem_of_getElem? hx)
      have HSX : Hid (sortS (kd p) x.kind = (byP p x).str) := Lib.hid (sortS_srt HP0.out hgx.1 hgx.2)
      rw [Nat.zero_mul, Nat.add_zero] at c0
      have cs := HA.out.boxS.cell
      clear hx hgx hsb
      gi_wp2_with fail
      refine wpIn_wide.2 ?_
      refine wp_region_held (S := fun w' => w'.cell? ⟨Bl, 0, none⟩ = some (.slice (some ⟨b, off, none⟩) m c) ∧ w'.cell? ⟨Bs, 0, none⟩ = some (clo Bp) ∧ w'.cell? ⟨b, off + 2, none⟩ = some (.string x.kind)) (by kernel_rfl) ?_
      have HSW : (fun w' : World => w'.cell? ⟨Bl, 0, none⟩ = some (.slice (some ⟨b, off, none⟩) m c) ∧ w'.cell? ⟨Bs, 0, none⟩ = some (clo Bp) ∧ w'.cell? ⟨b, off + 2, none⟩ = some (.string x.kind)) wr.drew := ⟨cl, cs, c0⟩
      change wpAnyH _ _ _ _ _ _ _ _ wr.drew
      refine held_take (i := 0) (v := clo Bp) rfl (by kernel_rfl) (by kernel_rfl) (by kernel_rfl) (fun _ _ _ h => h) rfl (fun _ hS => by obtain ⟨e1, e2, e3⟩ := hS; go_simp) HSW ?_
      simp only [Act.put, List.setIfInBounds_toArray, List.set_cons_succ, List.set_cons_zero, List.getElem_toArray, List.getElem_cons_succ, List.getElem_cons_zero]
      refine held_take (i := 1) (v := .slice (some ⟨b, off, none⟩) m c) rfl (by kernel_rfl) (by kernel_rfl) (by kernel_rfl) (fun _ _ _ h => h) rfl (fun _ hS => by obtain ⟨e1, e2, e3⟩ := hS; go_simp) HSW ?_
      simp only [Act.put, List.setIfInBounds_toArray, List.set_cons_succ, List.set_cons_zero, List.getElem_toArray, List.getElem_cons_succ, List.getElem_cons_zero]
      refine held_take (i := 2) (v := .pointer (some ⟨b, off, none⟩)) rfl (by kernel_rfl) (by kernel_rfl) (by kernel_rfl) (fun _ _ _ h => h) rfl (fun _ hS => by obtain ⟨e1, e2, e3⟩ := hS; go_simp) HSW ?_
      simp only [Act.put, List.setIfInBounds_toArray, List.set_cons_succ, List.set_cons_zero, List.getElem_toArray, List.getElem_cons_succ, List.getElem_cons_zero]
      refine held_take (i := 3) (v := .pointer (some ⟨b, off + 2, none⟩)) rfl (by kernel_rfl) (by kernel_rfl) (by kernel_rfl) (fun _ _ _ h => h) rfl (fun _ hS => by obtain ⟨e1, e2, e3⟩ := hS; go_simp) HSW ?_
      simp only [Act.put, List.setIfInBounds_toArray, List.set_cons_succ, List.set_cons_zero, List.getElem_toArray, List.getElem_cons_succ, List.getElem_cons_zero]
      refine held_take (i := 4) (v := .string x.kind) rfl (by kernel_rfl) (by kernel_rfl) (by kernel_rfl) (fun _ _ _ h => h) rfl (fun _ hS => by obtain ⟨e1, e2, e3⟩ := hS; go_simp) HSW ?_
      simp only [Act.put, List.setIfInBounds_toArray, List.set_cons_succ, List.set_cons_zero, List.getElem_toArray, List.getElem_cons_succ, List.getElem_cons_zero]
      refine held_callc (i := 5) (lb := #[.pointer (some ⟨Bp, 0, none⟩)]) (by kernel_rfl) rfl rfl rfl rfl (enters_of Try.func48 (by kernel_rfl) rfl) [.string x.kind] rfl (sort48_any p x.kind Bp wr.drew HA.out.boxP) ?_
      rintro e w1 ⟨rfl, hB1⟩
      rw [HSX.out]
      have hB1' : Below wr.heap.size wr w1 := (Below.refl _ _).drew.trans hB1
      have HA1 := Lib.hid (HA.out.below HJ.out hB1')
      have HSW1 : (fun w' : World => w'.cell? ⟨Bl, 0, none⟩ = some (.slice (some ⟨b, off, none⟩) m c) ∧ w'.cell? ⟨Bs, 0, none⟩ = some (clo Bp) ∧ w'.cell? ⟨b, off + 2, none⟩ = some (.string x.kind)) w1 := ⟨HA1.out.box.cell, HA1.out.boxS.cell, (hB1'.cell (p := ⟨b, off + 2, none⟩) hb).trans c0⟩
      refine ⟨_, rfl, HSW1, ?_⟩
      simp only [Act.put, List.setIfInBounds_toArray, List.set_cons_succ, List.set_cons_zero, List.getElem_toArray, List.getElem_cons_succ, List.getElem_cons_zero]
      refine held_take (i := 6) (v := .string (byP p x).str) rfl (by kernel_rfl) (by kernel_rfl) (by kernel_rfl) (fun _ _ _ h => h) rfl (fun _ hS => by obtain ⟨e1, e2, e3⟩ := hS; go_simp) HSW1 ?_
      simp only [Act.put, List.setIfInBounds_toArray, List.set_cons_succ, List.set_cons_zero, List.getElem_toArray, List.getElem_cons_succ, List.getElem_cons_zero]
      refine held_take (i := 7) (v := .int .i64 1) rfl (by kernel_rfl) (by kernel_rfl) (by kernel_rfl) (fun _ _ _ h => h) rfl (fun _ hS => by obtain ⟨e1, e2, e3⟩ := hS; go_simp) HSW1 ?_
      simp only [Act.put, List.setIfInBounds_toArray, List.set_cons_succ, List.set_cons_zero, List.getElem_toArray, List.getElem_cons_succ, List.getElem_cons_zero]
      refine wpAnyH_done (by kernel_rfl) ?_ _
      have HLE0 : Hid (nleft Bl wr = m) := Lib.hid (nleft_eq HA.out.box)
      clear HSW HSW1 hB1 hB1' HA cl cs c0
      gi_wp2_with fail
      gi_loopw [5] (fun s5 wq => ∃ k : Nat, s5 = .int .i64 k ∧ 1 ≤ k ∧ k ≤ m ∧ Hid (∀ j t, j < k → L[j]? = some t → byP p t = byP p x) ∧ Hid (nAt J n₀ Bl Bs Bp p S0 ts (some ⟨b, off, none⟩) m c L pre T wq)) (fun s5 _ => m - (intOf s5).toNat)
      case atStart => exact ⟨1, rfl, Nat.le_refl _, hm, Lib.hid fun j t hj ht => by
        obtain rfl : j = 0 := by omega
        rw [HX.out] at ht; cases ht; rfl, HA1⟩
      case round =>
        obtain ⟨k, rfl, h1k, hkm, HALL, HA2⟩ := hrel
        clear HA1
        have hki : (0 : Int) ≤ (k : Int) := by omega
        have hki2 : (k : Int) ≤ (c : Int) := by omega
        have hki3 : (k : Int) ≤ (m : Int) := by omega
        have cl := HA2.out.box.cell
        have cs := HA2.out.boxS.cell
        by_cases hlt : k < m
        · have ik : (k : Int) < (m : Int) := by omega
          obtain ⟨b', off', y, hbo, hy, hb2, -, ck⟩ := HA2.out.rd.kindAt hlt
          obtain ⟨rfl, rfl⟩ : b = b' ∧ off = off' := by injection hbo with e; injection e with e1 e2; exact ⟨e1, e2⟩
          have hgy := HA2.out.kinds y (List.mem_of_getElem? hy)
          have HSY : Hid (sortS (kd p) y.kind = (byP p y).str) := Lib.hid (sortS_srt HP0.out hgy.1 hgy.2)
          have HYK := Lib.hid hy
          clear hy hgy hbo
          gi_wp2_with fail
          refine wpIn_wide.2 ?_
          refine wp_region_held (S := fun w' => w'.cell? ⟨Bl, 0, none⟩ = some (.slice (some ⟨b, off, none⟩) m c) ∧ w'.cell? ⟨Bs, 0, none⟩ = some (clo Bp) ∧ w'.cell? ⟨b, off + k * 6 + 2, none⟩ = some (.string y.kind)) (by kernel_rfl) ?_
          have HSW2 : (fun w' : World => w'.cell? ⟨Bl, 0, none⟩ = some (.slice (some ⟨b, off, none⟩) m c) ∧ w'.cell? ⟨Bs, 0, none⟩ = some (clo Bp) ∧ w'.cell? ⟨b, off + k * 6 + 2, none⟩ = some (.string y.kind)) wr.drew := ⟨cl, cs, ck⟩
          change wpAnyH _ _ _ _ _ _ _ _ wr.drew
          refine held_take (i := 0) (v := .int .i64 (k : Int)) rfl (by kernel_rfl) (by kernel_rfl) (by kernel_rfl) (fun _ _ _ h => h) rfl (fun _ hS => by obtain ⟨e1, e2, e3⟩ := hS; go_simp) HSW2 ?_
          simp only [Act.put, List.setIfInBounds_toArray, List.set_cons_succ, List.set_cons_zero, List.getElem_toArray, List.getElem_cons_succ, List.getElem_cons_zero]
          refine held_take (i := 1) (v := .slice (some ⟨b, off, none⟩) m c) rfl (by kernel_rfl) (by kernel_rfl) (by kernel_rfl) (fun _ _ _ h => h) rfl (fun _ hS => by obtain ⟨e1, e2, e3⟩ := hS; go_simp) HSW2 ?_
          simp only [Act.put, List.setIfInBounds_toArray, List.set_cons_succ, List.set_cons_zero, List.getElem_toArray, List.getElem_cons_succ, List.getElem_cons_zero]
          refine held_take (i := 2) (v := .int .i64 (m : Int)) rfl (by kernel_rfl) (by kernel_rfl) (by kernel_rfl) (fun _ _ _ h => h) rfl (fun _ hS => by obtain ⟨e1, e2, e3⟩ := hS; go_simp) HSW2 ?_
          simp only [Act.put, List.setIfInBounds_toArray, List.set_cons_succ, List.set_cons_zero, List.getElem_toArray, List.getElem_cons_succ, List.getElem_cons_zero]
          refine held_take (i := 3) (v := .bool true) rfl (by kernel_rfl) (by kernel_rfl) (by kernel_rfl) (fun _ _ _ h => h) rfl (fun _ hS => by obtain ⟨e1, e2, e3⟩ := hS; go_simp) HSW2 ?_
          simp only [Act.put, List.setIfInBounds_toArray, List.set_cons_succ, List.set_cons_zero, List.getElem_toArray, List.getElem_cons_succ, List.getElem_cons_zero]
          refine held_take (i := 4) (v := .bool true) rfl (by kernel_rfl) (by kernel_rfl) (by kernel_rfl) (fun _ _ _ h => h) rfl (fun _ hS => by obtain ⟨e1, e2, e3⟩ := hS; go_simp) HSW2 ?_
          simp only [Act.put, List.setIfInBounds_toArray, List.set_cons_succ, List.set_cons_zero, List.getElem_toArray, List.getElem_cons_succ, List.getElem_cons_zero]
          refine held_take (i := 5) (v := clo Bp) rfl (by kernel_rfl) (by kernel_rfl) (by kernel_rfl) (fun _ _ _ h => h) rfl (fun _ hS => by obtain ⟨e1, e2, e3⟩ := hS; go_simp) HSW2 ?_
          simp only [Act.put, List.setIfInBounds_toArray, List.set_cons_succ, List.set_cons_zero, List.getElem_toArray, List.getElem_cons_succ, List.getElem_cons_zero]
          refine held_take (i := 6) (v := .slice (some ⟨b, off, none⟩) m c) rfl (by kernel_rfl) (by kernel_rfl) (by kernel_rfl) (fun _ _ _ h => h) rfl (fun _ hS => by obtain ⟨e1, e2, e3⟩ := hS; go_simp) HSW2 ?_
          simp only [Act.put, List.setIfInBounds_toArray, List.set_cons_succ, List.set_cons_zero, List.getElem_toArray, List.getElem_cons_succ, List.getElem_cons_zero]
          refine held_take (i := 7) (v := .int .i64 (k : Int)) rfl (by kernel_rfl) (by kernel_rfl) (by kernel_rfl) (fun _ _ _ h => h) rfl (fun _ hS => by obtain ⟨e1, e2, e3⟩ := hS; go_simp) HSW2 ?_
          simp only [Act.put, List.setIfInBounds_toArray, List.set_cons_succ, List.set_cons_zero, List.getElem_toArray, List.getElem_cons_succ, List.getElem_cons_zero]
          refine held_take (i := 8) (v := .pointer (some ⟨b, off + k * 6, none⟩)) rfl (by kernel_rfl) (by kernel_rfl) (by kernel_rfl) (fun _ _ _ h => h) rfl (fun _ hS => by obtain ⟨e1, e2, e3⟩ := hS; go_simp) HSW2 ?_
          simp only [Act.put, List.setIfInBounds_toArray, List.set_cons_succ, List.set_cons_zero, List.getElem_toArray, List.getElem_cons_succ, List.getElem_cons_zero]
          refine held_take (i := 9) (v := .pointer (some ⟨b, off + k * 6 + 2, none⟩)) rfl (by kernel_rfl) (by kernel_rfl) (by kernel_rfl) (fun _ _ _ h => h) rfl (fun _ hS => by obtain ⟨e1, e2, e3⟩ := hS; go_simp) HSW2 ?_
          simp only [Act.put, List.setIfInBounds_toArray, List.set_cons_succ, List.set_cons_zero, List.getElem_toArray, List.getElem_cons_succ, List.getElem_cons_zero]
          refine held_take (i := 10) (v := .string y.kind) rfl (by kernel_rfl) (by kernel_rfl) (by kernel_rfl) (fun _ _ _ h => h) rfl (fun _ hS => by obtain ⟨e1, e2, e3⟩ := hS; go_simp) HSW2 ?_
          simp only [Act.put, List.setIfInBounds_toArray, List.set_cons_succ, List.set_cons_zero, List.getElem_toArray, List.getElem_cons_succ, List.getElem_cons_zero]
          refine held_take (i := 12) (v := .string (byP p x).str) rfl (by kernel_rfl) (by kernel_rfl) (by kernel_rfl) (fun _ _ _ h => h) rfl (fun _ hS => by obtain ⟨e1, e2, e3⟩ := hS; go_simp) HSW2 ?_
          simp only [Act.put, List.setIfInBounds_toArray, List.set_cons_succ, List.set_cons_zero, List.getElem_toArray, List.getElem_cons_succ, List.getElem_cons_zero]
          refine held_callc (i := 11) (lb := #[.pointer (some ⟨Bp, 0, none⟩)]) (by kernel_rfl) rfl rfl rfl rfl (enters_of Try.func48 (by kernel_rfl) rfl) [.string y.kind] rfl (sort48_any p y.kind Bp wr.drew HA2.out.boxP) ?_
          rintro e w2 ⟨rfl, hB2⟩
          rw [HSY.out]
          have hB2' : Below wr.heap.size wr w2 := (Below.refl _ _).drew.trans hB2
          have HA3 := Lib.hid (HA2.out.below HJ.out hB2')
          have HSW3 : (fun w' : World => w'.cell? ⟨Bl, 0, none⟩ = some (.slice (some ⟨b, off, none⟩) m c) ∧ w'.cell? ⟨Bs, 0, none⟩ = some (clo Bp) ∧ w'.cell? ⟨b, off + k * 6 + 2, none⟩ = some (.string y.kind)) w2 := ⟨HA3.out.box.cell, HA3.out.boxS.cell, (hB2'.cell (p := ⟨b, _, none⟩) hb2).trans ck⟩
          refine ⟨_, rfl, HSW3, ?_⟩
          simp only [Act.put, List.setIfInBounds_toArray, List.set_cons_succ, List.set_cons_zero, List.getElem_toArray, List.getElem_cons_succ, List.getElem_cons_zero]
          have hq := str_beq (byP p y) (byP p x)
          generalize hqq : decide (byP p y = byP p x) = q at hq
          have HQ := Lib.hid hqq
          clear hqq
          refine held_take (i := 13) (v := .bool q) rfl (by kernel_rfl) (by kernel_rfl) (by kernel_rfl) (fun _ _ _ h => h) rfl (fun _ hS => by obtain ⟨e1, e2, e3⟩ := hS; go_simp) HSW3 ?_
          simp only [Act.put, List.setIfInBounds_toArray, List.set_cons_succ, List.set_cons_zero, List.getElem_toArray, List.getElem_cons_succ, List.getElem_cons_zero]
          refine held_take (i := 14) (v := .bool q) rfl (by kernel_rfl) (by kernel_rfl) (by kernel_rfl) (fun _ _ _ h => h) rfl (fun _ hS => by obtain ⟨e1, e2, e3⟩ := hS; go_simp) HSW3 ?_
          simp only [Act.put, List.setIfInBounds_toArray, List.set_cons_succ, List.set_cons_zero, List.getElem_toArray, List.getElem_cons_succ, List.getElem_cons_zero]
          refine wpAnyH_done (by kernel_rfl) ?_ _
          clear HSW2 HSW3 hB2 hB2' cl cs ck HA2
          cases q
          case true =>
            have HALL2 : Hid (∀ j t, j < k + 1 → L[j]? = some t → byP p t = byP p x) := Lib.hid fun j t hj ht => by
              rcases Nat.lt_or_ge j k with h | h
              · exact HALL.out j t h ht
              · obtain rfl : j = k := by omega
                rw [HYK.out] at ht; cases ht
                exact of_decide_eq_true HQ.out
            gi_wp2_with fail
            go_roundw
            case rel => exact ⟨k + 1, by go_num, by omega, by omega, HALL2, HA3⟩
            case measure => simp [intOf]; omega
          case false =>
            have HF : Hid (runsBy (byP p) L = (byP p x, L.take k) :: runsBy (byP p) (L.drop k)) := Lib.hid (runsBy_first h1k HALL.out (by rw [HLM.out]; exact hkm) (.inr ⟨y, HYK.out, of_decide_eq_false HQ.out⟩))
            have HA2 := HA3
            clear HA3 HYK HQ
            generalize w2 = wq at *
            have hA3 := HA2.out
            have cl := hA3.box.cell
            have hSlt : ∀ b, S0 b → b < wq.heap.size := fun b h => Nat.lt_of_lt_of_le (HS0.out b h) hA3.high
            have hsz := hA3.size
            have HCL := Lib.hid (clone57_any (some ⟨b, off, none⟩) k c (L.take k) wq S0 hSlt (hA3.rd.take hkm) h1k (by omega))
            clear hA3 hSlt hsz
            gi_wp2_with fail
            refine ⟨trivial, ?_⟩
            refine (callsIn_wide.2 HCL.out).mono ?_
            rintro e w3 ⟨A3, m3, c3, rfl, hr3, hB3⟩
            have hA3 := HA2.out.below HJ.out hB3
            have hJ3 : J pre (Both T (fun k => wq.heap.size ≤ k ∧ k < w3.heap.size)) w3 := HJ.out _ _ _ _ _ HA2.out.inv (Moves.of_below hB3 T) (fun k h => h)
            have hE3 : EncN n₀ S0 (byP p x, L.take k) (fun k => wq.heap.size ≤ k ∧ k < w3.heap.size) #[.string (byP p x).str, .slice A3 m3 c3] w3 :=
              ⟨fun b h => Nat.le_trans HA2.out.high h.1, A3, m3, c3, rfl, hr3.stay (.weaken w3 fun b hb h => h.imp id fun h => ⟨h, hb⟩)⟩
            have hdis : ∀ k, wq.heap.size ≤ k ∧ k < w3.heap.size → ¬ T k := fun k h hT => by have := HA2.out.hi k hT; omega
            have hpre : pre ++ [(byP p x, L.take k)] <+: runsBy (byP p) ts := ⟨runsBy (byP p) (L.drop k), by rw [← HA2.out.all, HF.out]; simp⟩
            obtain ⟨fn, tmps, assign, body, hy, hR⟩ := HY.out pre T (fun k => wq.heap.size ≤ k ∧ k < w3.heap.size) (byP p x, L.take k) _ w3 hJ3 hE3 hdis hpre
            have HRo := Lib.hid hR
            have HPR := Lib.hid hpre
            have HA3 := Lib.hid hA3
            clear hR hJ3 hE3 hdis hpre hr3 hB3 cl hA3 HCL
            gi_wp2_with fail
            refine HRo.out.mono ?_
            rintro e W5 (⟨rfl, hJ5, hk5, hT5⟩ | ⟨rfl, hJx⟩)
            · have B5 : Boxed W5 Bl 29 (.slice (some ⟨b, off, none⟩) m c) := (hT5.same _ HA3.out.ownL).trans HA3.out.box
              have RD5 : RdF W5 S0 (some ⟨b, off, none⟩) m c L := HA3.out.rd.stay (.beneath hk5 (fun b _ h => HS0.out b h) fun _ _ h => h)
              obtain ⟨A', hA'⟩ : ∃ A', (if c = k then (some ⟨b, off, none⟩ : Option Addr) else some ⟨b, off + k * 6, none⟩) = A' := ⟨_, rfl⟩
              have hsub := RD5.drop hkm
              simp only [Option.map_some, addr_add] at hsub
              rw [hA'] at hsub
              have lB5 := B5.cell
              have fB5 := B5.frozen
              have h6 : Below W5.heap.size W5 W5 := Below.refl _ _
              have hbl := HA3.out.low _ HA3.out.ownL
              have hB6 : Below n₀ W5 (W5.setCell ⟨Bl, 0, none⟩ (.slice A' (m - k) (c - k))) := (Below.refl n₀ W5).setCell (p := ⟨Bl, 0, none⟩) hbl _
              have hh5 : n₀ ≤ W5.heap.size := Nat.le_trans HA3.out.high hk5.size
              have HA5 : Hid (nAt J n₀ Bl Bs Bp p S0 ts A' (m - k) (c - k) (L.drop k) (pre ++ [(byP p x, L.take k)]) T (W5.setCell ⟨Bl, 0, none⟩ (.slice A' (m - k) (c - k)))) := Lib.hid
                { inv := HJ.out _ _ _ _ _ hJ5 ((Moves.refl _ _).setCell (.inl HA3.out.ownL) _) (Turns.refl _ _ _)
                  box := B5.set _
                  boxS := (Below.heap_setCell _ _ _ _ (Ne.symm HA3.out.neS)).trans ((hT5.same _ HA3.out.ownS).trans HA3.out.boxS)
                  boxP := HJP.out _ _ _ (HJ.out _ _ _ _ _ hJ5 ((Moves.refl _ _).setCell (.inl HA3.out.ownL) _) (Turns.refl _ _ _))
                  rd := hsub.stay (.beneath hB6 (fun b _ h => HS0.out b h) fun _ _ h => h)
                  all := by have := HA3.out.all; rw [HF.out] at this; rw [← this]; simp
                  ownL := HA3.out.ownL
                  ownS := HA3.out.ownS
                  low := HA3.out.low
                  kinds := fun t ht => HA3.out.kinds t (List.mem_of_mem_drop ht)
                  high := Nat.le_trans hh5 hB6.size
                  hi := fun j hj => Nat.lt_of_lt_of_le (HA3.out.hi j hj) (Nat.le_trans hk5.size hB6.size)
                  size := by have := HA3.out.size; omega
                  neS := HA3.out.neS }
              have HLE := HLE0.out
              have hleft : Hid (nleft Bl (W5.setCell ⟨Bl, 0, none⟩ (.slice A' (m - k) (c - k))) = m - k) := Lib.hid (nleft_eq HA5.out.box)
              clear hJ5 hk5 hT5 B5 RD5 hsub hB6 hh5 h6 hbl HLE
              have hA2 : A' = some ⟨b, off + k * 6, none⟩ := by rw [← hA']; exact if_neg (by omega)
              clear hA'
              subst hA2
              gi_wp2_with fail
              go_roundw
              case rel => exact ⟨_, _, _, _, _, _, HA5.out⟩
              case measure => rw [hleft.out, HLE0.out]; omega
            · gi_wp2_with fail
              refine bodyPost_ret (results_none rfl _ _ _) rfl ?_
              exact ⟨⟨_, rfl⟩, .inr ⟨_, HPR.out, hJx⟩⟩
        · have ik : (k : Int) < (m : Int) → False := by omega
          have gk : decide ((k : Int) < (m : Int)) = false := by simpa using ik
          have HF : Hid (runsBy (byP p) L = (byP p x, L.take k) :: runsBy (byP p) (L.drop k)) := Lib.hid (runsBy_first h1k HALL.out (by rw [HLM.out]; exact hkm) (.inl (by rw [HLM.out]; omega)))
          clear ik
          gi_wp2_with fail
          refine wpIn_wide.2 ?_
          refine wp_region_held (S := fun w' => w'.cell? ⟨Bl, 0, none⟩ = some (.slice (some ⟨b, off, none⟩) m c) ∧ w'.cell? ⟨Bs, 0, none⟩ = some (clo Bp) ∧ True) (by kernel_rfl) ?_
          have HSW2 : (fun w' : World => w'.cell? ⟨Bl, 0, none⟩ = some (.slice (some ⟨b, off, none⟩) m c) ∧ w'.cell? ⟨Bs, 0, none⟩ = some (clo Bp) ∧ True) wr.drew := ⟨cl, cs, trivial⟩
          change wpAnyH _ _ _ _ _ _ _ _ wr.drew
          refine held_take (i := 0) (v := .int .i64 (k : Int)) rfl (by kernel_rfl) (by kernel_rfl) (by kernel_rfl) (fun _ _ _ h => h) rfl (fun _ hS => by obtain ⟨e1, e2, e3⟩ := hS; go_simp) HSW2 ?_
          simp only [Act.put, List.setIfInBounds_toArray, List.set_cons_succ, List.set_cons_zero, List.getElem_toArray, List.getElem_cons_succ, List.getElem_cons_zero]
          refine held_take (i := 1) (v := .slice (some ⟨b, off, none⟩) m c) rfl (by kernel_rfl) (by kernel_rfl) (by kernel_rfl) (fun _ _ _ h => h) rfl (fun _ hS => by obtain ⟨e1, e2, e3⟩ := hS; go_simp) HSW2 ?_
          simp only [Act.put, List.setIfInBounds_toArray, List.set_cons_succ, List.set_cons_zero, List.getElem_toArray, List.getElem_cons_succ, List.getElem_cons_zero]
          refine held_take (i := 2) (v := .int .i64 (m : Int)) rfl (by kernel_rfl) (by kernel_rfl) (by kernel_rfl) (fun _ _ _ h => h) rfl (fun _ hS => by obtain ⟨e1, e2, e3⟩ := hS; go_simp) HSW2 ?_
          simp only [Act.put, List.setIfInBounds_toArray, List.set_cons_succ, List.set_cons_zero, List.getElem_toArray, List.getElem_cons_succ, List.getElem_cons_zero]
          refine held_take (i := 3) (v := .bool false) rfl (by kernel_rfl) (by kernel_rfl) (by kernel_rfl) (fun _ _ _ h => h) rfl (fun _ hS => by obtain ⟨e1, e2, e3⟩ := hS; go_simp) HSW2 ?_
          simp only [Act.put, List.setIfInBounds_toArray, List.set_cons_succ, List.set_cons_zero, List.getElem_toArray, List.getElem_cons_succ, List.getElem_cons_zero]
          refine held_take (i := 4) (v := .bool false) rfl (by kernel_rfl) (by kernel_rfl) (by kernel_rfl) (fun _ _ _ h => h) rfl (fun _ hS => by obtain ⟨e1, e2, e3⟩ := hS; go_simp) HSW2 ?_
          simp only [Act.put, List.setIfInBounds_toArray, List.set_cons_succ, List.set_cons_zero, List.getElem_toArray, List.getElem_cons_succ, List.getElem_cons_zero]
          refine held_skip (i := 5) rfl (by kernel_rfl) (by kernel_rfl) (by kernel_rfl) (fun _ _ _ h => h) rfl HSW2 ?_
          simp only [Act.put, List.setIfInBounds_toArray, List.set_cons_succ, List.set_cons_zero, List.getElem_toArray, List.getElem_cons_succ, List.getElem_cons_zero]
          refine held_skip (i := 6) rfl (by kernel_rfl) (by kernel_rfl) (by kernel_rfl) (fun _ _ _ h => h) rfl HSW2 ?_
          simp only [Act.put, List.setIfInBounds_toArray, List.set_cons_succ, List.set_cons_zero, List.getElem_toArray, List.getElem_cons_succ, List.getElem_cons_zero]
          refine held_skip (i := 7) rfl (by kernel_rfl) (by kernel_rfl) (by kernel_rfl) (fun _ _ _ h => h) rfl HSW2 ?_
          simp only [Act.put, List.setIfInBounds_toArray, List.set_cons_succ, List.set_cons_zero, List.getElem_toArray, List.getElem_cons_succ, List.getElem_cons_zero]
          refine held_skip (i := 8) rfl (by kernel_rfl) (by kernel_rfl) (by kernel_rfl) (fun _ _ _ h => h) rfl HSW2 ?_
          simp only [Act.put, List.setIfInBounds_toArray, List.set_cons_succ, List.set_cons_zero, List.getElem_toArray, List.getElem_cons_succ, List.getElem_cons_zero]
          refine held_skip (i := 9) rfl (by kernel_rfl) (by kernel_rfl) (by kernel_rfl) (fun _ _ _ h => h) rfl HSW2 ?_
          simp only [Act.put, List.setIfInBounds_toArray, List.set_cons_succ, List.set_cons_zero, List.getElem_toArray, List.getElem_cons_succ, List.getElem_cons_zero]
          refine held_skip (i := 10) rfl (by kernel_rfl) (by kernel_rfl) (by kernel_rfl) (fun _ _ _ h => h) rfl HSW2 ?_
          simp only [Act.put, List.setIfInBounds_toArray, List.set_cons_succ, List.set_cons_zero, List.getElem_toArray, List.getElem_cons_succ, List.getElem_cons_zero]
          refine held_skip (i := 11) rfl (by kernel_rfl) (by kernel_rfl) (by kernel_rfl) (fun _ _ _ h => h) rfl HSW2 ?_
          simp only [Act.put, List.setIfInBounds_toArray, List.set_cons_succ, List.set_cons_zero, List.getElem_toArray, List.getElem_cons_succ, List.getElem_cons_zero]
          refine held_skip (i := 12) rfl (by kernel_rfl) (by kernel_rfl) (by kernel_rfl) (fun _ _ _ h => h) rfl HSW2 ?_
          simp only [Act.put, List.setIfInBounds_toArray, List.set_cons_succ, List.set_cons_zero, List.getElem_toArray, List.getElem_cons_succ, List.getElem_cons_zero]
          refine held_skip (i := 13) rfl (by kernel_rfl) (by kernel_rfl) (by kernel_rfl) (fun _ _ _ h => h) rfl HSW2 ?_
          simp only [Act.put, List.setIfInBounds_toArray, List.set_cons_succ, List.set_cons_zero, List.getElem_toArray, List.getElem_cons_succ, List.getElem_cons_zero]
          refine held_take (i := 14) (v := .bool false) rfl (by kernel_rfl) (by kernel_rfl) (by kernel_rfl) (fun _ _ _ h => h) rfl (fun _ hS => by obtain ⟨e1, e2, e3⟩ := hS; go_simp) HSW2 ?_
          simp only [Act.put, List.setIfInBounds_toArray, List.set_cons_succ, List.set_cons_zero, List.getElem_toArray, List.getElem_cons_succ, List.getElem_cons_zero]
          refine wpAnyH_done (by kernel_rfl) ?_ _
          have HA3 := Lib.hid (HA2.out.below HJ.out (Below.refl _ _).drew)
          clear HSW2 cl cs HA2
          generalize wr.drew = wq at *
          have HA2 := HA3
          clear HA3
          have hA3 := HA2.out
          have cl := hA3.box.cell
          have hSlt : ∀ b, S0 b → b < wq.heap.size := fun b h => Nat.lt_of_lt_of_le (HS0.out b h) hA3.high
          have hsz := hA3.size
          have HCL := Lib.hid (clone57_any (some ⟨b, off, none⟩) k c (L.take k) wq S0 hSlt (hA3.rd.take hkm) h1k (by omega))
          clear hA3 hSlt hsz
          gi_wp2_with fail
          refine ⟨trivial, ?_⟩
          refine (callsIn_wide.2 HCL.out).mono ?_
          rintro e w3 ⟨A3, m3, c3, rfl, hr3, hB3⟩
          have hA3 := HA2.out.below HJ.out hB3
          have hJ3 : J pre (Both T (fun k => wq.heap.size ≤ k ∧ k < w3.heap.size)) w3 := HJ.out _ _ _ _ _ HA2.out.inv (Moves.of_below hB3 T) (fun k h => h)
          have hE3 : EncN n₀ S0 (byP p x, L.take k) (fun k => wq.heap.size ≤ k ∧ k < w3.heap.size) #[.string (byP p x).str, .slice A3 m3 c3] w3 :=
            ⟨fun b h => Nat.le_trans HA2.out.high h.1, A3, m3, c3, rfl, hr3.stay (.weaken w3 fun b hb h => h.imp id fun h => ⟨h, hb⟩)⟩
          have hdis : ∀ k, wq.heap.size ≤ k ∧ k < w3.heap.size → ¬ T k := fun k h hT => by have := HA2.out.hi k hT; omega
          have hpre : pre ++ [(byP p x, L.take k)] <+: runsBy (byP p) ts := ⟨runsBy (byP p) (L.drop k), by rw [← HA2.out.all, HF.out]; simp⟩
          obtain ⟨fn, tmps, assign, body, hy, hR⟩ := HY.out pre T (fun k => wq.heap.size ≤ k ∧ k < w3.heap.size) (byP p x, L.take k) _ w3 hJ3 hE3 hdis hpre
          have HRo := Lib.hid hR
          have HPR := Lib.hid hpre
          have HA3 := Lib.hid hA3
          clear hR hJ3 hE3 hdis hpre hr3 hB3 cl hA3 HCL
          gi_wp2_with fail
          refine HRo.out.mono ?_
          rintro e W5 (⟨rfl, hJ5, hk5, hT5⟩ | ⟨rfl, hJx⟩)
          · have B5 : Boxed W5 Bl 29 (.slice (some ⟨b, off, none⟩) m c) := (hT5.same _ HA3.out.ownL).trans HA3.out.box
            have RD5 : RdF W5 S0 (some ⟨b, off, none⟩) m c L := HA3.out.rd.stay (.beneath hk5 (fun b _ h => HS0.out b h) fun _ _ h => h)
            obtain ⟨A', hA'⟩ : ∃ A', (if c = k then (some ⟨b, off, none⟩ : Option Addr) else some ⟨b, off + k * 6, none⟩) = A' := ⟨_, rfl⟩
            have hsub := RD5.drop hkm
            simp only [Option.map_some, addr_add] at hsub
            rw [hA'] at hsub
            have lB5 := B5.cell
            have fB5 := B5.frozen
            have h6 : Below W5.heap.size W5 W5 := Below.refl _ _
            have hbl := HA3.out.low _ HA3.out.ownL
            have hB6 : Below n₀ W5 (W5.setCell ⟨Bl, 0, none⟩ (.slice A' (m - k) (c - k))) := (Below.refl n₀ W5).setCell (p := ⟨Bl, 0, none⟩) hbl _
            have hh5 : n₀ ≤ W5.heap.size := Nat.le_trans HA3.out.high hk5.size
            have HA5 : Hid (nAt J n₀ Bl Bs Bp p S0 ts A' (m - k) (c - k) (L.drop k) (pre ++ [(byP p x, L.take k)]) T (W5.setCell ⟨Bl, 0, none⟩ (.slice A' (m - k) (c - k)))) := Lib.hid
              { inv := HJ.out _ _ _ _ _ hJ5 ((Moves.refl _ _).setCell (.inl HA3.out.ownL) _) (Turns.refl _ _ _)
                box := B5.set _
                boxS := (Below.heap_setCell _ _ _ _ (Ne.symm HA3.out.neS)).trans ((hT5.same _ HA3.out.ownS).trans HA3.out.boxS)
                boxP := HJP.out _ _ _ (HJ.out _ _ _ _ _ hJ5 ((Moves.refl _ _).setCell (.inl HA3.out.ownL) _) (Turns.refl _ _ _))
                rd := hsub.stay (.beneath hB6 (fun b _ h => HS0.out b h) fun _ _ h => h)
                all := by have := HA3.out.all; rw [HF.out] at this; rw [← this]; simp
                ownL := HA3.out.ownL
                ownS := HA3.out.ownS
                low := HA3.out.low
                kinds := fun t ht => HA3.out.kinds t (List.mem_of_mem_drop ht)
                high := Nat.le_trans hh5 hB6.size
                hi := fun j hj => Nat.lt_of_lt_of_le (HA3.out.hi j hj) (Nat.le_trans hk5.size hB6.size)
                size := by have := HA3.out.size; omega
                neS := HA3.out.neS }
            have HLE := HLE0.out
            have hleft : Hid (nleft Bl (W5.setCell ⟨Bl, 0, none⟩ (.slice A' (m - k) (c - k))) = m - k) := Lib.hid (nleft_eq HA5.out.box)
            clear hJ5 hk5 hT5 B5 RD5 hsub hB6 hh5 h6 hbl HLE
            gi_wp2_with fail
            go_roundw
            case rel => exact ⟨_, _, _, _, _, _, HA5.out⟩
            case measure => rw [hleft.out, HLE0.out]; omega
          · gi_wp2_with fail
            refine bodyPost_ret (results_none rfl _ _ _) rfl ?_
            exact ⟨⟨_, rfl⟩, .inr ⟨_, HPR.out, hJx⟩⟩
    · obtain rfl : m = 0 := by omega
      have hnil : L = [] := List.eq_nil_of_length_eq_zero HLM.out
      have hall : pre = runsBy (byP p) ts := by have := HA.out.all; rw [hnil, runsBy_nil] at this; simpa using this
      have HAL := Lib.hid hall
      clear hall hnil
      gi_wp2_with fail
      go_end0
      exact ⟨⟨_, rfl⟩, .inl ⟨T, HAL.out ▸ HA.out.inv⟩⟩
end Go.Proofs.Ytcdhndhgainadaa
