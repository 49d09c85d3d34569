/-
  The iterator of a text's pieces: its contract.
-/
import Derived.Test.YtdajnkcjdmnnkaaRangeOwn
import Derived.Test.YtdajnkcjdmnnkaaPieceLaw
import Derived.RangeFuncBound
import Derived.RangeFuncCalls
import Derived.RangeFuncLeaves
import Derived.Shelf.Abstract
import Derived.Shelf.RegionOpen
import Derived.WalkKit
import Derived.OwnWalkIn
import Derived.TacticsInMore
import Derived.LoopNIn
import Derived.LoopIn
namespace Go.Proofs.Ytdajnkcjdmnnkaa
open Go Go.RowKit Go.Shelf
set_option linter.unusedVariables false
attribute [local go_sem] Oper.semAt_some

set_option maxRecDepth 100000 in
set_option maxHeartbeats 1000000 in
theorem mk_any (n : Nat) (A : Option Addr) (len cap : Nat) (w : World) :
    CallsIn Fence.wide n Try.prog 19 #[.slice A len cap] w fun e w' => e = .returned (.func (.func 22) #[] #[.pointer (some ⟨w.heap.size, 0, none⟩)]) ∧ w' = w.alloc (.cells #[.slice A len cap] 22) := by
  refine callsIn_of_wp Try.func19 rfl trivial ?_ rfl
  simp only [Try.ntmps19, List.size_toArray, List.length_cons, List.length_nil, Nat.reduceAdd, Nat.reduceSub, Array.replicate_succ, Array.replicate_zero, List.push_toArray, List.append_toArray, List.nil_append, List.cons_append]
  gi_wp2
  go_ret
  exact ⟨rfl, rfl⟩

/-- the four cells of an element -/
theorem Rd.el {w : World} {B n : Nat} {A : Option Addr} {xs : List El} (h : Rd w B 4 A n (els xs)) {k : Nat} {e : El} (he : xs[k]? = some e) :
    ∃ b off, A = some ⟨b, off, none⟩ ∧ b < B ∧ w.cell? ⟨b, off + k * 4, none⟩ = some (.int .i64 e.n) ∧ w.cell? ⟨b, off + k * 4 + 1, none⟩ = some (.int .i64 e.r) ∧
      w.cell? ⟨b, off + k * 4 + 2, none⟩ = some (.int .i64 e.ch) ∧ w.cell? ⟨b, off + k * 4 + 3, none⟩ = some (.bool e.gone) := by
  have hk : k < xs.length := by
    rcases Nat.lt_or_ge k xs.length with h1 | h1
    · exact h1
    · rw [List.getElem?_eq_none h1] at he; cases he
  have hn : xs.length * 4 = n * 4 := by rw [← els_len]; exact h.1
  obtain ⟨b, off, hA, hb, hc⟩ := h.at_ (by omega)
  have hf : ∀ (xs : List El) (k : Nat) (e : El) (j : Nat), xs[k]? = some e → j < 4 → (els xs)[k * 4 + j]? = (El.cells e)[j]? := by
    intro xs
    induction xs with
    | nil => intro k e j h; simp at h
    | cons x xs ih =>
      intro k e j h hj
      have e1 : els (x :: xs) = El.cells x ++ els xs := rfl
      rw [e1]
      cases k with
      | zero =>
        simp at h; subst h
        rw [Nat.zero_mul, Nat.zero_add, List.getElem?_append_left (by simpa [El.cells] using hj)]
      | succ k =>
        rw [List.getElem?_append_right (by simp [El.cells]; omega)]
        have : (k + 1) * 4 + j - (El.cells x).length = k * 4 + j := by simp [El.cells]; omega
        rw [this]
        exact ih k e j (by simpa using h) hj
  refine ⟨b, off, hA, hb, ?_, ?_, ?_, ?_⟩
  · exact hc (k * 4) _ (by have := hf xs k e 0 he (by omega); simpa [El.cells] using this)
  · rw [Nat.add_assoc]; exact hc (k * 4 + 1) _ (by have := hf xs k e 1 he (by omega); simpa [El.cells] using this)
  · rw [Nat.add_assoc]; exact hc (k * 4 + 2) _ (by have := hf xs k e 2 he (by omega); simpa [El.cells] using this)
  · rw [Nat.add_assoc]; exact hc (k * 4 + 3) _ (by have := hf xs k e 3 he (by omega); simpa [El.cells] using this)

/-- a block of four cells -/
def Box4 (w : World) (B : Nat) (t : TypeId) (a b c d : Value) : Prop := w.heap[B]? = some (.cells #[a, b, c, d] t (0, 0))
theorem Box4.c0 {w : World} {B : Nat} {t : TypeId} {a b c d : Value} (h : Box4 w B t a b c d) : w.cell? ⟨B, 0, none⟩ = some a := by simp [World.cell?, show w.heap[B]? = _ from h]
theorem Box4.c1 {w : World} {B : Nat} {t : TypeId} {a b c d : Value} (h : Box4 w B t a b c d) : w.cell? ⟨B, 1, none⟩ = some b := by simp [World.cell?, show w.heap[B]? = _ from h]
theorem Box4.c2 {w : World} {B : Nat} {t : TypeId} {a b c d : Value} (h : Box4 w B t a b c d) : w.cell? ⟨B, 2, none⟩ = some c := by simp [World.cell?, show w.heap[B]? = _ from h]
theorem Box4.c3 {w : World} {B : Nat} {t : TypeId} {a b c d : Value} (h : Box4 w B t a b c d) : w.cell? ⟨B, 3, none⟩ = some d := by simp [World.cell?, show w.heap[B]? = _ from h]
theorem Box4.fr {w : World} {B : Nat} {t : TypeId} {a b c d : Value} (h : Box4 w B t a b c d) (o : Nat) : w.frozen? ⟨B, o, none⟩ = false := by simp [World.frozen?, show w.heap[B]? = _ from h]
theorem Box4.lt {w : World} {B : Nat} {t : TypeId} {a b c d : Value} (h : Box4 w B t a b c d) : B < w.heap.size := (Array.getElem?_eq_some_iff.1 h).1

theorem Box4.set3 {w : World} {B : Nat} {t : TypeId} {a b c d : Value} (h : Box4 w B t a b c d) (v : Value) : Box4 (w.setCell ⟨B, 3, none⟩ v) B t a b c v := by
  obtain ⟨hlt, hk⟩ := Array.getElem?_eq_some_iff.1 h
  show (w.heap.modify B _)[B]? = _
  rw [Array.getElem?_eq_getElem (by rw [Array.size_modify]; exact hlt), Array.getElem_modify_self, hk]
  rfl
theorem Box4.kept {w w' : World} {B : Nat} {t : TypeId} {a b c d : Value} (h : Box4 w B t a b c d) (e : w'.heap[B]? = w.heap[B]?) : Box4 w' B t a b c d := e.trans h

/-- what holds at the head of round k -/
structure At (J : List Sp → (Nat → Prop) → World → Prop) (n₀ Bl Bs : Nat) (A : Option Addr) (len cap : Nat) (W : World) (T : Nat → Prop) (xs : List El) (k : Nat) (wr : World) : Prop where
  k_le : k ≤ len
  inv : J (emi xs k) T wr
  box : Box4 wr Bs 31 (.int .i64 (cur xs k).n) (.int .i64 (cur xs k).r) (.int .i64 (cur xs k).f) (.int .i64 0)
  ownS : T Bs
  ownL : T Bl
  low : ∀ j, T j → n₀ ≤ j
  high : n₀ ≤ wr.heap.size
  arg : Boxed wr Bl 22 (.slice A len cap)
  rd : Rd wr n₀ 4 A len (els xs)
  ne : Bl ≠ Bs

section
variable {J : List Sp → (Nat → Prop) → World → Prop} {n₀ Bl Bs : Nat} {A : Option Addr} {len cap : Nat} {W : World} {T : Nat → Prop} {xs : List El} {k : Nat} {wr w2 W5 : World} {e : El}
theorem At.next_miss (h : At J n₀ Bl Bs A len cap W T xs k wr) (hJ : AbidesT J) (hk : k < len) (he : xs[k]? = some e) (hb : bnd e = false) (o : Obj) (hB : Below (wr.alloc o).heap.size (wr.alloc o) w2) :
    At J n₀ Bl Bs A len cap W (fun j => T j ∨ (wr.heap.size ≤ j ∧ j < w2.heap.size)) xs (k + 1) w2 := by
  have hs : wr.heap.size < w2.heap.size := by have := hB.size; simp at this; omega
  have keep : ∀ j, j < wr.heap.size → w2.heap[j]? = wr.heap[j]? := fun j hj => (hB.block _ (by simp; omega)).trans (Below.heap_alloc _ _ _ hj)
  refine ⟨hk, ?_, ?_, .inl h.ownS, .inl h.ownL, ?_, by have := h.high; omega, (keep _ h.arg.lt).trans h.arg, ?_, h.ne⟩
  · rw [emi_miss he hb]
    exact hJ _ _ _ _ _ h.inv (((Moves.refl T wr).alloc o).then_below hB) (fun j h => h)
  · rw [cur_miss he hb]; exact h.box.kept (keep _ h.box.lt)
  · rintro j (hj | hj)
    · exact h.low j hj
    · have := h.high; omega
  · exact h.rd.keep fun p hp => World.cell?_of_block (w := wr) (keep _ (by have := h.high; omega))

theorem Box4.setAll {w : World} {B : Nat} {t : TypeId} {a b c d : Value} (h : Box4 w B t a b c d) (v0 v1 v2 v3 : Value) :
    Box4 ((((w.setCell ⟨B, 0, none⟩ v0).setCell ⟨B, 1, none⟩ v1).setCell ⟨B, 2, none⟩ v2).setCell ⟨B, 3, none⟩ v3) B t v0 v1 v2 v3 := by
  obtain ⟨hlt, hk⟩ := Array.getElem?_eq_some_iff.1 h
  have s1 : ∀ (w : World) (j : Nat) (v : Value) (cs : Array Value), w.heap[B]? = some (.cells cs t (0, 0)) → (w.setCell ⟨B, j, none⟩ v).heap[B]? = some (.cells (cs.setIfInBounds j v) t (0, 0)) := by
    intro w j v cs hw
    obtain ⟨hlt, hk⟩ := Array.getElem?_eq_some_iff.1 hw
    show (w.heap.modify B _)[B]? = _
    rw [Array.getElem?_eq_getElem (by rw [Array.size_modify]; exact hlt), Array.getElem_modify_self, hk]
    rfl
  exact s1 _ 3 v3 _ (s1 _ 2 v2 _ (s1 _ 1 v1 _ (s1 w 0 v0 _ h)))

theorem At.next_hit (h : At J n₀ Bl Bs A len cap W T xs k wr) (hJ : AbidesT J) (hk : k < len) (he : xs[k]? = some e) (hb : bnd e = true) (o : Obj) (hB : Below (wr.alloc o).heap.size (wr.alloc o) w2)
    (hJ5 : J (emi xs k ++ [(cur xs k).till k]) (fun j => T j ∨ (wr.heap.size ≤ j ∧ j < w2.heap.size)) W5) (v : Value) (hk5 : Below n₀ (w2.setCell ⟨Bs, 3, none⟩ v) W5) (hT5 : KeepsT (fun j => T j ∨ (wr.heap.size ≤ j ∧ j < w2.heap.size)) (w2.setCell ⟨Bs, 3, none⟩ v) W5) :
    At J n₀ Bl Bs A len cap W (fun j => T j ∨ (wr.heap.size ≤ j ∧ j < w2.heap.size)) xs (k + 1)
      ((((W5.setCell ⟨Bs, 0, none⟩ (.int .i64 e.n)).setCell ⟨Bs, 1, none⟩ (.int .i64 e.r)).setCell ⟨Bs, 2, none⟩ (.int .i64 ((k : Int) + 1))).setCell ⟨Bs, 3, none⟩ (.int .i64 0)) := by
  have hs : wr.heap.size < w2.heap.size := by have := hB.size; simp at this; omega
  have hs5 : w2.heap.size ≤ W5.heap.size := by have := hk5.size; simpa [World.setCell] using this
  have keep : ∀ j, j < wr.heap.size → w2.heap[j]? = wr.heap[j]? := fun j hj => (hB.block _ (by simp; omega)).trans (Below.heap_alloc _ _ _ hj)
  have hn : n₀ ≤ Bs := h.low _ h.ownS
  have hb5 : Below n₀ wr W5 := by
    refine Below.trans ?_ hk5
    refine Below.setCell ?_ (p := ⟨Bs, 3, none⟩) hn _
    exact ((Below.refl n₀ wr).alloc h.high o).trans (hB.mono (by have := h.high; simp; omega))
  have hb6 : Below n₀ wr ((((W5.setCell ⟨Bs, 0, none⟩ (.int .i64 e.n)).setCell ⟨Bs, 1, none⟩ (.int .i64 e.r)).setCell ⟨Bs, 2, none⟩ (.int .i64 ((k : Int) + 1))).setCell ⟨Bs, 3, none⟩ (.int .i64 0)) :=
    (((hb5.setCell (p := ⟨Bs, 0, none⟩) hn _).setCell (p := ⟨Bs, 1, none⟩) hn _).setCell (p := ⟨Bs, 2, none⟩) hn _).setCell (p := ⟨Bs, 3, none⟩) hn _
  refine ⟨hk, ?_, ?_, .inl h.ownS, .inl h.ownL, ?_, Nat.le_trans h.high hb6.size, ?_, h.rd.below hb6, h.ne⟩
  · rw [emi_hit he hb]
    refine hJ _ _ _ _ _ hJ5 ?_ (Turns.refl _ _ _)
    exact ((((Moves.refl _ W5).setCell (p := ⟨Bs, 0, none⟩) (.inl (.inl h.ownS)) _).setCell (p := ⟨Bs, 1, none⟩) (.inl (.inl h.ownS)) _).setCell (p := ⟨Bs, 2, none⟩) (.inl (.inl h.ownS)) _).setCell (p := ⟨Bs, 3, none⟩) (.inl (.inl h.ownS)) _
  · rw [cur_hit he hb]
    exact (((h.box.kept (keep _ h.box.lt)).set3 v).kept (hT5.same _ (.inl h.ownS))).setAll _ _ _ _
  · rintro j (hj | hj)
    · exact h.low j hj
    · have := h.high; omega
  · have e0 : W5.heap[Bl]? = wr.heap[Bl]? := (hT5.same _ (.inl h.ownL)).trans ((Below.heap_setCell _ _ _ _ h.ne).trans (keep _ h.arg.lt))
    refine Eq.trans ?_ h.arg
    rw [← e0]
    rw [Below.heap_setCell _ _ _ _ h.ne, Below.heap_setCell _ _ _ _ h.ne, Below.heap_setCell _ _ _ _ h.ne, Below.heap_setCell _ _ _ _ h.ne]
end

set_option maxRecDepth 100000 in
set_option maxHeartbeats 2000000 in
theorem pieces1_in (n : Nat) (hn : 1 ≤ n) (l Bl n₀ : Nat) (A : Option Addr) (len cap : Nat) (xs : List El) (hmax : len ≤ maxLen) (J : List Sp → (Nat → Prop) → World → Prop) (Jx : List Sp → World → Prop) (hJ : AbidesT J)
    (hY : ∀ pre T x W1, J pre T W1 → pre ++ [x] <+: pieces xs → YieldAt Fence.wide (n - 1) Try.prog l #[Sp.val x] W1 fun e W' =>
      (e = .returned (.bool true) ∧ J (pre ++ [x]) T W' ∧ Below n₀ W1 W' ∧ KeepsT T W1 W') ∨ (e = .returned (.bool false) ∧ Jx (pre ++ [x]) W'))
    (W : World) (hn₀ : n₀ ≤ W.heap.size) (hBl : Boxed W Bl 22 (.slice A len cap)) (hR : Rd W n₀ 4 A len (els xs)) (T0 : Nat → Prop) (hT0 : T0 Bl) (hT0n : ∀ k, T0 k → n₀ ≤ k) (h0 : J [] T0 W) :
    CallsIn Fence.wide n Try.prog 22 #[.func (.yield l) #[] #[], .pointer (some ⟨Bl, 0, none⟩)] W fun e W' => (∃ v, e = .returned v) ∧ ((∃ T, J (pieces xs) T W') ∨ (∃ pre, pre <+: pieces xs ∧ Jx pre W')) := by
  unfold maxLen at hmax
  have hlen : xs.length = len := by have := hR.1; rw [els_len] at this; omega
  have HL := Lib.hid hlen
  have HR := Lib.hid hR
  have HJ := Lib.hid hJ
  have HY := Lib.hid hY
  have H0 := Lib.hid h0
  have HT := Lib.hid hT0n
  have cB : ∀ o, (W.alloc o).cell? ⟨Bl, 0, none⟩ = some (.slice A len cap) := fun o => (hBl.alloc o).cell
  have HB := Lib.hid hBl
  clear hlen hR hJ hY h0 hBl hT0n
  refine callsIn_of_wp Try.func22 rfl trivial ?_ rfl
  simp only [Try.ntmps22, List.size_toArray, List.length_cons, List.length_nil, Nat.reduceAdd, Nat.reduceSub, Array.replicate_succ, Array.replicate_zero, List.push_toArray, List.append_toArray, List.nil_append, List.cons_append]
  gi_wp2
  go_outline
  gi_loopw [9] (fun i wr => ∃ (k : Nat) (T : Nat → Prop), i = .int .i64 k ∧ At J n₀ Bl W.heap.size A len cap W T xs k wr) (fun i _ => len - (intOf i).toNat)
  case atStart =>
    have hne : Bl ≠ W.heap.size := fun e => by have := HB.out.lt; omega
    refine ⟨0, (fun j => T0 j ∨ (W.heap.size ≤ j ∧ j < W.heap.size + 1)), rfl, Nat.zero_le _, ?_, World.alloc_heap_new W _, .inr ⟨Nat.le_refl _, by simp⟩, .inl hT0, ?_, by simp; omega, HB.out.alloc _, HR.out.alloc hn₀ _, hne⟩
    · exact HJ.out _ T0 (fun j => T0 j ∨ (W.heap.size ≤ j ∧ j < W.heap.size + 1)) _ _ H0.out ((Moves.refl _ W).alloc _) (fun j h => by simpa using h)
    · rintro j (hj | hj)
      · exact HT.out j hj
      · omega
  case round =>
    obtain ⟨k, T, rfl, hR⟩ := hrel
    have R := Lib.hid hR
    have hk := hR.k_le
    have cs0 := hR.box.c0
    have cs1 := hR.box.c1
    have cs2 := hR.box.c2
    have cs3 := hR.box.c3
    have fs := hR.box.fr
    have hkx := hR.k_le
    clear hR cB
    by_cases hlt : k < len
    · obtain ⟨e, he⟩ : ∃ e, xs[k]? = some e := ⟨xs[k]'(by rw [HL.out]; exact hlt), List.getElem?_eq_getElem _⟩
      obtain ⟨b, off, rfl, hb, c0, c1, c2, c3⟩ := R.out.rd.el he
      have HE := Lib.hid he
      clear he
      obtain ⟨en, er, ech, eg⟩ := e
      simp only at c0 c1 c2 c3
      gi_wp2_with fail
      refine ⟨trivial, ?_⟩
      refine (callsIn_wide.2 (boundary_any _ _ _ _ _)).mono ?_
      rintro e w2 ⟨rfl, hB2⟩
      have X0 : Box4 (wr.alloc (.cells #[.int .i64 en, .int .i64 er, .int .i64 ech, .bool eg] 29)) wr.heap.size 29 (.int .i64 en) (.int .i64 er) (.int .i64 ech) (.bool eg) := World.alloc_heap_new wr _
      have X2 : Box4 w2 wr.heap.size 29 (.int .i64 en) (.int .i64 er) (.int .i64 ech) (.bool eg) := (hB2.block _ X0.lt).trans X0
      have M2 : Moves T wr w2 := ((Moves.refl T wr).alloc _).then_below hB2
      have S2 : Box4 w2 W.heap.size 31 (.int .i64 (cur xs k).n) (.int .i64 (cur xs k).r) (.int .i64 (cur xs k).f) (.int .i64 0) := by
        refine (hB2.block _ (by have := R.out.box.lt; simp; omega)).trans ?_
        exact (Below.heap_alloc _ _ _ R.out.box.lt).trans R.out.box
      have HB2 := Lib.hid hB2
      have HX2 := Lib.hid X2
      have HM2 := Lib.hid M2
      have HS2 := Lib.hid S2
      clear X0 X2 M2 S2 hB2 cs0 cs1 cs2 cs3 fs c0 c1 c2 c3
      cases hbn : bnd ⟨en, er, ech, eg⟩ with
      | true =>
        have hJ3 : J (emi xs k) (fun j => T j ∨ (wr.heap.size ≤ j ∧ j < w2.heap.size)) (w2.setCell ⟨W.heap.size, 3, none⟩ (.int .i64 k)) :=
          HJ.out _ _ _ _ _ R.out.inv (HM2.out.setCell (.inl R.out.ownS) _) (fun j h => by simpa [World.setCell] using h)
        obtain ⟨fn, tmps, assign, body, hy, hR⟩ := HY.out _ _ _ _ hJ3 (emi_next HE.out hbn)
        simp only [Sp.val, Sp.till] at hy
        have HRo := Lib.hid hR
        have cs0 := HS2.out.c0
        have cs1 := HS2.out.c1
        have cs2 := HS2.out.c2
        have cs3 := HS2.out.c3
        have fs := HS2.out.fr
        clear hR hJ3
        gi_wp2
        refine HRo.out.mono ?_
        rintro e W5 (⟨rfl, hJ5, hk5, hT5⟩ | ⟨rfl, hJx⟩)
        · have S5 := HS2.out.set3 (.int .i64 k) |>.kept (hT5.same _ (.inl R.out.ownS))
          have X5 : Box4 W5 wr.heap.size 29 (.int .i64 en) (.int .i64 er) (.int .i64 ech) (.bool eg) := (HX2.out.kept (Below.heap_setCell _ _ _ _ (by have := R.out.box.lt; simp; omega))).kept (hT5.same _ (.inr ⟨Nat.le_refl _, HX2.out.lt⟩))
          have HS5 := Lib.hid S5
          have HX5 := Lib.hid X5
          have HJ5 := Lib.hid hJ5
          have Hk5 := Lib.hid hk5
          have HT5 := Lib.hid hT5
          clear cs0 cs1 cs2 cs3 fs hJ5 hk5 hT5 hy HRo
          have cs0 := S5.c0
          have cs1 := S5.c1
          have cs2 := S5.c2
          have cs3 := S5.c3
          have fs := S5.fr
          have cx0 := X5.c0
          have cx1 := X5.c1
          have cx2 := X5.c2
          have cx3 := X5.c3
          clear S5 X5
          gi_wp2
          clear cs0 cs1 cs2 cs3 fs cx0 cx1 cx2 cx3
          have hn := R.out.next_hit HJ.out hlt HE.out hbn _ HB2.out HJ5.out _ Hk5.out HT5.out
          go_roundw
          case rel => exact ⟨k + 1, _, by go_num, hn⟩
          case measure => simp [intOf]; omega
        · gi_wp2
          refine bodyPost_ret (results_none rfl _ _ _) rfl ?_
          exact ⟨⟨_, rfl⟩, .inr ⟨_, emi_next HE.out hbn, hJx⟩⟩
      | false =>
        gi_wp2
        have hn := R.out.next_miss HJ.out hlt HE.out hbn _ HB2.out
        go_roundw
        case rel => exact ⟨k + 1, _, by go_num, hn⟩
        case measure => simp [intOf]; omega
    · obtain rfl : k = len := by omega
      have cB := R.out.arg.cell
      have hJ3 : J (emi xs k) T (wr.setCell ⟨W.heap.size, 3, none⟩ (.int .i64 k)) := HJ.out _ _ _ _ _ R.out.inv ((Moves.refl T wr).setCell (.inl R.out.ownS) _) (Turns.refl _ _ _)
      have hpc : emi xs k ++ [(cur xs k).till k] = pieces xs := by unfold pieces; rw [HL.out]
      obtain ⟨fn, tmps, assign, body, hy, hR⟩ := HY.out _ _ _ _ hJ3 (by rw [hpc]; exact List.prefix_refl _)
      simp only [Sp.val, Sp.till] at hy
      have HRo := Lib.hid hR
      have HPC := Lib.hid hpc
      clear hR hJ3 hpc
      gi_wp2
      refine HRo.out.mono ?_
      rintro e W5 (⟨rfl, hJ5, hk5, hT5⟩ | ⟨rfl, hJx⟩)
      · gi_wp2
        go_end0
        exact ⟨⟨_, rfl⟩, .inl ⟨_, HPC.out ▸ hJ5⟩⟩
      · gi_wp2
        go_end0
        exact ⟨⟨_, rfl⟩, .inr ⟨_, List.prefix_refl _, HPC.out ▸ hJx⟩⟩
end Go.Proofs.Ytdajnkcjdmnnkaa
