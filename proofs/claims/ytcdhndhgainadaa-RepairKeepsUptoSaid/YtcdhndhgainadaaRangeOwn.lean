/-
  A range over a function whose iterator WRITES CELLS OF ITS OWN between two rounds (a captured variable, a boxed local): the law, and the iterator's contract.
  T: the blocks that the iterator may turn. The caller's invariant I speaks of no block of T; the body keeps the blocks of T.
-/
import Derived.RangeFuncNested
import Derived.RangeFuncLeaves
import Derived.RangeFuncBox
import Derived.Deep.Draws
namespace Go.Proofs.Ytcdhndhgainadaa
open Go Go.RowKit

/-- What lay in w lies in w', but for the blocks of T; the streams are as they were. -/
structure Moves (T : Nat → Prop) (w w' : World) : Prop where
  os : w'.os = w.os
  tape : w'.tape = w.tape
  output : w'.output = w.output
  size : w.heap.size ≤ w'.heap.size
  block : ∀ k, k < w.heap.size → ¬ T k → w'.heap[k]? = w.heap[k]?

/-- T' has of T, and of what is new. -/
def Turns (T T' : Nat → Prop) (w w' : World) : Prop := ∀ k, T' k → T k ∨ (w.heap.size ≤ k ∧ k < w'.heap.size)

section
variable {T T' : Nat → Prop} {a b c w w' : World}
theorem Moves.refl (T : Nat → Prop) (w : World) : Moves T w w := ⟨rfl, rfl, rfl, Nat.le_refl _, fun _ _ _ => rfl⟩
theorem Moves.trans (h : Moves T a b) (k : Moves T' b c) (ht : ∀ k, T' k → T k ∨ a.heap.size ≤ k) : Moves T a c :=
  ⟨k.os.trans h.os, k.tape.trans h.tape, k.output.trans h.output, Nat.le_trans h.size k.size, fun i hi hn => (k.block i (Nat.lt_of_lt_of_le hi h.size) (fun e => by rcases ht i e with h1 | h1; exact hn h1; omega)).trans (h.block i hi hn)⟩
theorem Moves.of_below (h : Below w.heap.size w w') (T : Nat → Prop) : Moves T w w' := ⟨h.os, h.tape, h.output, h.size, fun k hk _ => h.block k hk⟩
theorem Moves.more (h : Moves T w w') (ht : ∀ k, T k → T' k) : Moves T' w w' := ⟨h.os, h.tape, h.output, h.size, fun k hk hn => h.block k hk fun e => hn (ht k e)⟩
theorem Moves.alloc (h : Moves T a w) (o : Obj) : Moves T a (w.alloc o) :=
  ⟨h.os, h.tape, h.output, by simpa using Nat.le_succ_of_le h.size, fun k hk hn => (Below.heap_alloc _ _ _ (Nat.lt_of_lt_of_le hk h.size)).trans (h.block k hk hn)⟩
theorem Moves.drew (h : Moves T a w) : Moves T a w.drew := ⟨h.os, h.tape, h.output, h.size, h.block⟩
theorem Moves.drewN (h : Moves T a w) (n : Nat) : Moves T a (w.drewN n) := ⟨h.os, h.tape, h.output, h.size, h.block⟩
theorem Moves.setCell (h : Moves T a w) {p : Addr} (hp : T p.block ∨ a.heap.size ≤ p.block) (u : Value) : Moves T a (w.setCell p u) :=
  ⟨h.os, h.tape, h.output, by simpa [World.setCell] using h.size, fun k hk hn => (Below.heap_setCell _ _ _ _ (fun e => by subst e; rcases hp with h1 | h1; exact hn h1; omega)).trans (h.block k hk hn)⟩
theorem Moves.putObj (h : Moves T a w) {l : Nat} (hl : T l ∨ a.heap.size ≤ l) (o : Obj) : Moves T a (w.putObj l o) :=
  ⟨h.os, h.tape, h.output, Nat.le_trans h.size (grownBy_putObj' w l o).size, fun k hk hn => ((grownBy_putObj' w l o).block k (Nat.lt_of_lt_of_le hk h.size) (fun e => by cases e; rcases hl with h1 | h1; exact hn h1; omega)).trans (h.block k hk hn)⟩
theorem Moves.then_below (h : Moves T a w) (k : Below w.heap.size w w') : Moves T a w' := h.trans (Moves.of_below k (fun _ => False)) (fun _ e => e.elim)
theorem Moves.cell (h : Moves T w w') {p : Addr} (hp : p.block < w.heap.size) (hn : ¬ T p.block) : w'.cell? p = w.cell? p := World.cell?_of_block (w := w) (h.block p.block hp hn)
theorem Moves.frozen (h : Moves T w w') {p : Addr} (hp : p.block < w.heap.size) (hn : ¬ T p.block) : w'.frozen? p = w.frozen? p := World.frozen?_of_block (w := w) (h.block p.block hp hn)
theorem Moves.below {n₀ : Nat} (h : Moves T w w') (hn : n₀ ≤ w.heap.size) (ht : ∀ k, T k → n₀ ≤ k) : Below n₀ w w' :=
  ⟨h.os, h.tape, h.output, h.size, fun k hk => h.block k (by omega) (fun e => by have := ht k e; omega)⟩
theorem Turns.refl (T : Nat → Prop) (w w' : World) : Turns T T w w' := fun _ h => .inl h
end

/-- THE INVARIANT SPEAKS OF NO BLOCK OF T. -/
def AbidesT {β : Type} (J : β → (Nat → Prop) → World → Prop) : Prop := ∀ s T T' W W', J s T W → Moves T W W' → Turns T T' W W' → J s T' W'

theorem AbidesT.and {β : Type} {J J' : β → (Nat → Prop) → World → Prop} (h : AbidesT J) (h' : AbidesT J') : AbidesT (fun s T W => J s T W ∧ J' s T W) :=
  fun s T T' W W' hs hm ht => ⟨h s T T' W W' hs.1 hm ht, h' s T T' W W' hs.2 hm ht⟩
theorem AbidesT.putObj {β : Type} {J : β → (Nat → Prop) → World → Prop} (h : AbidesT J) {s : β} {T : Nat → Prop} {W : World} {l : Nat} (hs : J s T W) (hl : T l) (o : Obj) : J s T (W.putObj l o) :=
  h s T T W _ hs ((Moves.refl T W).putObj (.inl hl) o) (Turns.refl _ _ _)

/-- what the body keeps -/
structure KeepsT (T : Nat → Prop) (W W' : World) : Prop where
  size : W.heap.size ≤ W'.heap.size
  same : ∀ k, T k → W'.heap[k]? = W.heap[k]?
theorem KeepsT.refl (T : Nat → Prop) (W : World) : KeepsT T W W := ⟨Nat.le_refl _, fun _ _ => rfl⟩
theorem KeepsT.trans {T : Nat → Prop} {a b c : World} (h : KeepsT T a b) (k : KeepsT T b c) : KeepsT T a c := ⟨Nat.le_trans h.size k.size, fun i hi => (k.same i hi).trans (h.same i hi)⟩
theorem KeepsT.of_grownBy {T : Nat → Prop} {W W' : World} {row : Option Nat} (hg : W.grownBy W' row) (ht : ∀ k, T k → k < W.heap.size) (hr : ∀ k, row = some k → ¬ T k) : KeepsT T W W' :=
  ⟨hg.size, fun k hk => hg.block k (ht k hk) (fun e => hr k e.symm hk)⟩
theorem KeepsT.of_below {T : Nat → Prop} {W W' : World} {B : Nat} (hb : Below B W W') (ht : ∀ k, T k → k < B) : KeepsT T W W' :=
  ⟨hb.size, fun k hk => hb.block k (ht k hk)⟩
theorem KeepsT.alloc {T : Nat → Prop} {a w : World} (h : KeepsT T a w) (ht : ∀ k, T k → k < w.heap.size) (o : Obj) : KeepsT T a (w.alloc o) :=
  ⟨by simpa using Nat.le_succ_of_le h.size, fun k hk => (Below.heap_alloc _ _ _ (ht k hk)).trans (h.same k hk)⟩
theorem KeepsT.setCell {T : Nat → Prop} {a w : World} (h : KeepsT T a w) {p : Addr} (hp : ¬ T p.block) (u : Value) : KeepsT T a (w.setCell p u) :=
  ⟨by simpa [World.setCell] using h.size, fun k hk => (Below.heap_setCell _ _ _ _ (fun e => by subst e; exact hp hk)).trans (h.same k hk)⟩

/-- the blocks of the loop's own book-keeping, beside T -/
def With (T : Nat → Prop) (L D : Nat) : Nat → Prop := fun k => T k ∨ k = L ∨ k = D

section
variable {n : Nat} {P : Program}

/-- THE CONTRACT OF AN ITERATOR THAT GIVES xs, ONE BY ONE. -/
def SeqOwns {α : Type} (n : Nat) (P : Program) (g : Nat) (lb : Array Value) (encs : α → Array Value) (n₀ : Nat) (xs : List α) (T0 : Nat → Prop) (w : World) : Prop :=
  ∀ (l : Nat) (J : List α → (Nat → Prop) → World → Prop) (Jx : List α → World → Prop) (W : World), Below w.heap.size w W → AbidesT J →
    (∀ pre T x W1, J pre T W1 → pre ++ [x] <+: xs → YieldAt Fence.wide (n - 1) P l (encs x) W1 fun e W' =>
      (e = .returned (.bool true) ∧ J (pre ++ [x]) T W' ∧ Below n₀ W1 W' ∧ KeepsT T W1 W') ∨ (e = .returned (.bool false) ∧ Jx (pre ++ [x]) W')) →
    J [] T0 W →
    CallsIn Fence.wide n P g (#[.func (.yield l) #[] #[]] ++ lb) W fun e W' => (∃ v, e = .returned v) ∧ ((∃ T, J xs T W') ∨ (∃ pre, pre <+: xs ∧ Jx pre W'))

/-- HOW THE BODY OF A ROUND MAY BE LEFT. -/
def ownPostT {α : Type} (T : Nat → Prop) (n₀ : Nat) (I : List α → (Nat → Prop) → World → Prop) (Ix : Code → List α → (Nat → Prop) → World → Prop) (xs : List α) (W : World) : Exit → Act → World → Prop
  | .normal, _, W' => KeepsT T W W' ∧ Below n₀ W W' ∧ I xs T W'
  | .ret, _, W' => KeepsT T W W' ∧ Ix .ret xs T W'
  | .exit id, _, W' => KeepsT T W W' ∧ Ix (.exit id) xs T W'
  | .goto t, _, W' => KeepsT T W W' ∧ Ix (.goto t) xs T W'
  | .panic _, _, _ => False
  | .outgrown, _, _ => False

theorem wpIn_rangeFunc_T {α : Type} {g : Operand} {ps : Array Tmp} {assign body : Code} {Q : Exit → Act → World → Prop} {a : Act} {w : World}
    (h1 : 1 ≤ n) {gf : Nat} {lb : Array Value} (hg : a.eval g = .func (.func gf) #[] lb) (eg : ∀ args w, (callFunc gf args).run P w = .ok (.enter gf args) w)
    {encs : α → Array Value} {n₀ : Nat} {xs : List α} {T0 : Nat → Prop} {w0 : World} (hseq : SeqOwns (n - 1) P gf lb encs n₀ xs T0 w0)
    (hn₀ : n₀ ≤ w.heap.size) (hb0 : Below w0.heap.size w0 w) (hT0 : ∀ k, T0 k → k < w.heap.size) (hps : ∀ x, (encs x).size = ps.size)
    (I : List α → (Nat → Prop) → World → Prop) (Ix : Code → List α → (Nat → Prop) → World → Prop) (hI : AbidesT I) (hIx : ∀ c, AbidesT (Ix c)) (h0 : I [] T0 w)
    (Ax : α → Act → (Nat → Prop) → World → Prop) (hAx : ∀ x a', AbidesT (fun (_ : Unit) T W => Ax x a' T W))
    (hassign : ∀ (l : Nat) (pre : List α) (T : Nat → Prop) (x : α) (W : World) (K : Act → World → Prop), I pre T W → (∀ k, T k → k < W.heap.size) → pre ++ [x] <+: xs → n₀ ≤ W.heap.size →
      (∀ a' W', KeepsT T W W' → Below n₀ W W' → I pre T W' → Ax x a' T W' → K a' W') →
      assign.wpIn (Fence.wide.inRound l) (n - 1 - 1) P (Exit.then K (fun _ _ _ => False)) { tmps := (ps.zip (encs x)).foldl (fun t (p, v) => t.setIfInBounds p v) a.tmps, defers := [] } W)
    (hbody : ∀ (l : Nat) (pre : List α) (T : Nat → Prop) (x : α) (a' : Act) (W : World), I pre T W → (∀ k, T k → k < W.heap.size) → Ax x a' T W → pre ++ [x] <+: xs → n₀ ≤ W.heap.size →
      body.wpIn (Fence.wide.inRound l) (n - 1 - 1) P (ownPostT T n₀ I Ix (pre ++ [x]) W) a' W)
    (hdone : ∀ (D : Nat) (T : Nat → Prop) (W : World), w.heap.size ≤ D → T D → I xs T W → W.heap[D]? = some (.deferred (some [])) → Q .normal { a with defers := { target := .collected D, args := #[] } :: a.defers } W)
    (hstop : ∀ (D : Nat) (c : Code) (pre : List α) (T : Nat → Prop) (W : World), w.heap.size ≤ D → T D → pre <+: xs → Ix c pre T W → W.heap[D]? = some (.deferred (some [])) → c.wpIn Fence.wide n P Q { a with defers := { target := .collected D, args := #[] } :: a.defers } W) :
    (Code.rangeFunc g ps assign body).wpIn Fence.wide n P Q a w := by
  refine wpIn_rangeFunc ?_
  intro fn hfn
  obtain ⟨rec, hrec⟩ : ∃ rec : LoopState → Option Code → Loop, rec = fun st pe => { state := st, pending := pe, fn, tmps := a.tmps, params := ps, assign, body, defers := w.heap.size } := ⟨_, rfl⟩
  obtain ⟨W1, hW1⟩ : ∃ W1, (w.alloc (.deferred (some []))).alloc (.loop (rec .ready none)) = W1 := ⟨_, rfl⟩
  have hL1 : W1.heap[w.heap.size + 1]? = some (.loop (rec .ready none)) := by
    rw [← hW1]; have := World.alloc_heap_new (w.alloc (.deferred (some []))) (.loop (rec .ready none)); rwa [World.size_alloc] at this
  have hK1 : W1.heap[w.heap.size]? = some (.deferred (some [])) := by
    rw [← hW1]; exact (Below.heap_alloc _ _ _ (by simp)).trans (World.alloc_heap_new w _)
  have hs1 : W1.heap.size = w.heap.size + 1 + 1 := by rw [← hW1]; simp
  obtain ⟨L, hL⟩ : ∃ L, L = w.heap.size + 1 := ⟨_, rfl⟩
  obtain ⟨D, hD⟩ : ∃ D, D = w.heap.size := ⟨_, rfl⟩
  have hDw : w.heap.size ≤ D := by omega
  have hI1 : I [] (With T0 L D) W1 := by
    refine hI [] T0 _ w W1 h0 ?_ ?_
    · rw [← hW1]; exact ((Moves.refl _ w).alloc _).alloc _
    · intro k hk
      rcases hk with hk | hk | hk
      · exact .inl hk
      · exact .inr ⟨by omega, by omega⟩
      · exact .inr ⟨by omega, by omega⟩
  have hb1 : Below w0.heap.size w0 W1 := by
    rw [← hW1]; exact hb0.trans ((((Below.refl _ w).alloc (Nat.le_refl _) _).alloc (by simp) _).mono hb0.size)
  refine ⟨L, [{ target := .collected D, args := #[] }], W1, { target := .fn (.func gf) lb, args := #[.func (.yield L) #[] #[]] }, W1, gf,
    #[.func (.yield L) #[] #[]] ++ lb, W1, ?_, ?_, ?_, ?_, fun _ => h1, ?_⟩
  · subst hL hD
    rw [← hW1, hrec]; exact run_enterLoop_outer _ _ _ _ _
  · simp only [resolve, hg]
    simp [go_sem]
  · intro f' hf'; trivial
  · simp [invoke, go_sem, eg]
  · rw [← hL] at hL1
    rw [← hD] at hK1
    refine (hseq L
      (fun pre T W => I pre (With T L D) W ∧ W.heap[L]? = some (.loop (rec .ready none)) ∧ W.heap[D]? = some (.deferred (some [])) ∧ ¬ T L ∧ ¬ T D ∧ (∀ k, T k → k < W.heap.size) ∧ n₀ ≤ W.heap.size)
      (fun pre W => ∃ c T, Ix c pre T W ∧ T L ∧ T D ∧ W.heap[L]? = some (.loop (rec .done (some c))) ∧ W.heap[D]? = some (.deferred (some [])))
      W1 hb1
      (fun s T T' A B hs hm ht => by
        obtain ⟨hi, hl, hk, nL, nD, hlt, hn⟩ := hs
        have hlA := (Array.getElem?_eq_some_iff.1 hl).1
        have hkA := (Array.getElem?_eq_some_iff.1 hk).1
        refine ⟨hI s _ _ A B hi (hm.more fun k h => .inl h) (fun k h => ?_), (hm.block L hlA nL).trans hl, (hm.block D hkA nD).trans hk, fun h => ?_, fun h => ?_, fun k h => ?_, Nat.le_trans hn hm.size⟩
        · rcases h with h | h
          · exact (ht k h).imp .inl id
          · exact .inl (.inr h)
        · rcases ht L h with h | h
          · exact nL h
          · omega
        · rcases ht D h with h | h
          · exact nD h
          · omega
        · rcases ht k h with h | h
          · exact Nat.lt_of_lt_of_le (hlt k h) hm.size
          · exact h.2)
      ?_ ⟨hI1, hL1, hK1, fun h => by have := hT0 L h; omega, fun h => by have := hT0 D h; omega, fun k h => by have := hT0 k h; omega, by omega⟩).mono ?_
    · -- ONE ROUND
      rintro pre T x W ⟨hi, hl, hk, nL, nD, hT, hn⟩ hpre
      have hlt : L < W.heap.size := (Array.getElem?_eq_some_iff.1 hl).1
      have hltD : D < W.heap.size := (Array.getElem?_eq_some_iff.1 hk).1
      have hy := run_yield (P := P) (args := encs x) hl (by rw [hrec]; exact hps x)
      rw [hrec] at hy
      have hTW : ∀ k, With T L D k → k < W.heap.size := by
        intro k h
        rcases h with h | h | h
        · exact hT k h
        · omega
        · omega
      refine ⟨fn, _, assign, body, hy, roundIn_of_wpIn hfn (hassign _ pre _ x W _ hi hTW hpre hn ?_)⟩
      clear hy
      intro a' Wa hkfa hkpa hia hax
      have hla := (hkfa.same L (.inr (.inl rfl))).trans hl
      have hka := (hkfa.same D (.inr (.inr rfl))).trans hk
      have hlta : L < Wa.heap.size := (Array.getElem?_eq_some_iff.1 hla).1
      refine ⟨_, run_beginRound hla (by rw [hrec]), ?_⟩
      obtain ⟨W2, hW2⟩ : ∃ W2, W2 = Wa.putObj L (.loop { rec .ready none with state := .busy }) := ⟨_, rfl⟩
      have hl2 : W2.heap[L]? = some (.loop { rec .ready none with state := .busy }) := by rw [hW2]; exact World.putObj_heap_same hlta
      have hk2 : W2.heap[D]? = some (.deferred (some [])) := by rw [hW2]; exact (World.putObj_heap_other (by omega)).trans hka
      have hi2 : I pre (With T L D) W2 := by rw [hW2]; exact hI.putObj hia (.inr (.inl rfl)) _
      have hax2 : Ax x a' (With T L D) W2 := by rw [hW2]; exact (hAx x a').putObj (s := ()) hax (.inr (.inl rfl)) _
      have hs2 : W2.heap.size = Wa.heap.size := by rw [hW2]; simp [World.putObj]
      have hb2 : Below n₀ Wa W2 := by rw [hW2]; exact (Below.refl n₀ Wa).grown (grownBy_putObj' Wa L _) (Nat.le_trans hn hkfa.size) (fun k e => by cases e; omega)
      have hT2 : ∀ k, T k → W2.heap[k]? = W.heap[k]? := fun k h => by
        rw [hW2]; exact (World.putObj_heap_other (fun e => by subst e; exact nL h)).trans (hkfa.same k (.inl h))
      rw [← hW2]
      refine wpIn_mono (hbody _ pre _ x a' _ hi2 (fun k h => by rw [hs2]; exact Nat.lt_of_lt_of_le (hTW k h) hkfa.size) hax2 hpre (by rw [hs2]; exact Nat.le_trans hn hkfa.size)) ?_
      have fin : ∀ (jump : Option Code) (W3 : World), KeepsT (With T L D) W2 W3 →
          (Instr.endRound L jump).run P W3 = .ok (.bool jump.isNone) (W3.putObj L (.loop (rec (if jump.isNone then .ready else .done) jump))) ∧
          (W3.putObj L (.loop (rec (if jump.isNone then .ready else .done) jump))).heap[L]? = some (.loop (rec (if jump.isNone then .ready else .done) jump)) ∧
          (W3.putObj L (.loop (rec (if jump.isNone then .ready else .done) jump))).heap[D]? = some (.deferred (some [])) := fun jump W3 hk3 => by
        have hl3 := (hk3.same L (.inr (.inl rfl))).trans hl2
        have := run_endRound (P := P) jump hl3
        rw [hrec] at this ⊢
        exact ⟨this, World.putObj_heap_same (Array.getElem?_eq_some_iff.1 hl3).1, (World.putObj_heap_other (by omega)).trans ((hk3.same D (.inr (.inr rfl))).trans hk2)⟩
      rintro e a3 W3 hp
      cases e with
      | normal =>
        obtain ⟨hk3, hkp3, hi3⟩ := hp
        obtain ⟨hr, hl4, hk4⟩ := fin none W3 hk3
        have hsz : W.heap.size ≤ W3.heap.size := Nat.le_trans hkfa.size (by rw [← hs2]; exact hk3.size)
        have hbe : Below n₀ W (W3.putObj L (.loop (rec (if (none : Option Code).isNone then .ready else .done) none))) :=
          hkpa.trans (hb2.trans (hkp3.grown (grownBy_putObj' W3 L _) (by omega) (fun k e => by cases e; omega)))
        refine ⟨_, _, hr, .inl ⟨rfl, ⟨hI.putObj hi3 (.inr (.inl rfl)) _, hl4, hk4, nL, nD, fun k h => ?_, Nat.le_trans hn hbe.size⟩, hbe, ⟨hbe.size, fun k h => ?_⟩⟩⟩
        · exact Nat.lt_of_lt_of_le (hT k h) hbe.size
        · exact (World.putObj_heap_other (fun e => by subst e; exact nL h)).trans ((hk3.same k (.inl h)).trans (hT2 k h))
      | ret =>
        obtain ⟨hk3, hi3⟩ := hp
        obtain ⟨hr, hl4, hk4⟩ := fin (some .ret) W3 hk3
        exact ⟨_, _, hr, .inr ⟨rfl, .ret, _, (hIx _).putObj hi3 (.inr (.inl rfl)) _, .inr (.inl rfl), .inr (.inr rfl), hl4, hk4⟩⟩
      | exit id =>
        obtain ⟨hk3, hi3⟩ := hp
        obtain ⟨hr, hl4, hk4⟩ := fin (some (.exit id)) W3 hk3
        exact ⟨_, _, hr, .inr ⟨rfl, .exit id, _, (hIx _).putObj hi3 (.inr (.inl rfl)) _, .inr (.inl rfl), .inr (.inr rfl), hl4, hk4⟩⟩
      | goto t =>
        obtain ⟨hk3, hi3⟩ := hp
        obtain ⟨hr, hl4, hk4⟩ := fin (some (.goto t)) W3 hk3
        exact ⟨_, _, hr, .inr ⟨rfl, .goto t, _, (hIx _).putObj hi3 (.inr (.inl rfl)) _, .inr (.inl rfl), .inr (.inr rfl), hl4, hk4⟩⟩
      | panic ch => exact hp.elim
      | outgrown => exact hp.elim
    · -- BEHIND THE ITERATOR
      rintro e W2 ⟨⟨v, rfl⟩, (⟨T, hi, hl, hk, nL, nD, hT, hn⟩ | ⟨pre, hpre, c, T, hi, tL, tD, hl, hk⟩)⟩
      · exact ⟨none, _, by have := run_endLoop (P := P) hl (by rw [hrec]; simp); rw [hrec] at this; exact this, hdone D _ _ hDw (.inr (.inr rfl)) (hI.putObj hi (.inr (.inl rfl)) _) ((World.putObj_heap_other (by omega)).trans hk)⟩
      · exact ⟨some c, _, by have := run_endLoop (P := P) hl (by rw [hrec]; simp); rw [hrec] at this; exact this, hstop D c pre T _ hDw tD hpre ((hIx c).putObj hi tL _) ((World.putObj_heap_other (by omega)).trans hk)⟩
end

/-! ### a body that collects -/
theorem own_heap {w w' : World} {base : Nat} {e : TypeId} {size n : Nat} {v : Value} {xs : List Value} (h : w.ownsRow base e size v n xs) (hk : ∀ g, v.ownBlock = some g → w'.heap[g]? = w.heap[g]?) : w'.ownsRow base e size v n xs := by
  refine ⟨h.1, h.2.imp id ?_⟩
  rintro ⟨g, cap, cur, rfl, hb, hg, rest⟩
  exact ⟨g, cap, cur, rfl, hb, (hk g rfl).trans hg, rest⟩

/-- block Bo is a variable's box, that holds a slice which owns xs; neither it nor the row is of T. -/
def Coll (T : Nat → Prop) (W : World) (n₀ Bo : Nat) (t e : TypeId) (size k : Nat) (xs : List Value) : Prop :=
  ∃ v, Boxed W Bo t v ∧ ¬ T Bo ∧ W.ownsRow n₀ e size v k xs ∧ ∀ g, v.ownBlock = some g → ¬ T g

theorem Coll.moves {T T' : Nat → Prop} {W W' : World} {n₀ Bo : Nat} {t e : TypeId} {size k : Nat} {xs : List Value} (h : Coll T W n₀ Bo t e size k xs) (hm : Moves T W W') (ht : Turns T T' W W') : Coll T' W' n₀ Bo t e size k xs := by
  obtain ⟨v, hv, hB, hr, hg⟩ := h
  refine ⟨v, (hm.block Bo hv.lt hB).trans hv, fun h' => ?_, own_heap hr (fun g e => hm.block g (hr.lt g e).2 (hg g e)), fun g e h' => ?_⟩
  · rcases ht _ h' with h1 | h1
    · exact hB h1
    · have := hv.lt; omega
  · rcases ht _ h' with h1 | h1
    · exact hg g e h1
    · have := (hr.lt g e).2; omega
theorem Coll.abides {β : Type} (n₀ Bo : Nat) (t e : TypeId) (size : Nat) (k : β → Nat) (f : β → List Value) : AbidesT (fun (s : β) T W => Coll T W n₀ Bo t e size (k s) (f s)) :=
  fun _ _ _ _ _ hs hm ht => hs.moves hm ht

/-- 'nothing that lay below n₀ has turned' is kept where T lies from n₀ on. -/
theorem abides_below {β : Type} (n₀ : Nat) (w₀ : World) (hn : n₀ ≤ w₀.heap.size) : AbidesT (fun (_ : β) T W => Below n₀ w₀ W ∧ ∀ k, T k → n₀ ≤ k) := by
  rintro _ T T' W W' ⟨hb, hT⟩ hm ht
  refine ⟨hb.trans (hm.below (Nat.le_trans hn hb.size) hT), fun k hk => ?_⟩
  rcases ht k hk with h | h
  · exact hT k h
  · have := hb.size; omega
/-- out = append(out, ..): behind the append law's two words. -/
theorem Coll.appended {T : Nat → Prop} {W w1 : World} {n₀ Bo : Nat} {t e : TypeId} {size : Nat} {v v' : Value} {k m : Nat} {xs ys : List Value} {tmp : Obj}
    (hv : Boxed W Bo t v) (hnB : ¬ T Bo) (hrow : W.ownsRow n₀ e size v k xs) (hng : ∀ g, v.ownBlock = some g → ¬ T g) (hte : t ≠ e) (hT : ∀ j, T j → j < W.heap.size) (hn₀ : n₀ ≤ W.heap.size) (hB : n₀ ≤ Bo)
    (hown' : w1.ownsRow n₀ e size v' m ys) (hgrow : (W.alloc tmp).grownBy w1 v.ownBlock) (hnew : ∀ g, v'.ownBlock = some g → v.ownBlock = some g ∨ W.heap.size ≤ g) :
    Boxed w1 Bo t v ∧ KeepsT T W (w1.setCell ⟨Bo, 0, none⟩ v') ∧ Below n₀ W (w1.setCell ⟨Bo, 0, none⟩ v') ∧ Coll T (w1.setCell ⟨Bo, 0, none⟩ v') n₀ Bo t e size m ys := by
  obtain ⟨h1, h2, h3, h4, h5⟩ := hv.appended hte hrow hn₀ hB hown' hgrow
  refine ⟨h1, ⟨h5.size, fun j hj => ?_⟩, h5, v', h2, hnB, h3, fun g hg hTg => ?_⟩
  · have hlt := hT j hj
    rw [Below.heap_setCell _ _ _ _ (fun e => by subst e; exact hnB hj)]
    rw [hgrow.block j (by simp; omega) (fun e => hng j e.symm hj)]
    exact Below.heap_alloc _ _ _ hlt
  · rcases hnew g hg with h6 | h6
    · exact hng g h6 hTg
    · have := hT g hTg; omega
end Go.Proofs.Ytcdhndhgainadaa
