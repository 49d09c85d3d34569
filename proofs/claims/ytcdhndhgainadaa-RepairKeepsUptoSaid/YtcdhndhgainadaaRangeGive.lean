/-
  A range over a function whose iterator GIVES THE BODY MEMORY with each round (a slice that it made): the law, and the iterator's contract.
  What is given (vs) is told by a relation Enc; it lies in the blocks U, which are of the body's from then on.
-/
import Derived.Test.YtcdhndhgainadaaRangeOwn
namespace Go.Proofs.Ytcdhndhgainadaa
open Go Go.RowKit

section
variable {n : Nat} {P : Program}

/-- two sets of blocks -/
def Both (T U : Nat → Prop) : Nat → Prop := fun k => T k ∨ U k

/-- THE CONTRACT OF AN ITERATOR THAT GIVES xs, ONE BY ONE, EACH WITH BLOCKS OF ITS OWN (U), that are the body's from then on. -/
def SeqGives {α : Type} (n : Nat) (P : Program) (g : Nat) (lb : Array Value) (Enc : α → (Nat → Prop) → Array Value → World → Prop) (Req : World → Prop) (n₀ : Nat) (xs : List α) (T0 : Nat → Prop) (w : World) : Prop :=
  ∀ (l : Nat) (J : List α → (Nat → Prop) → World → Prop) (Jx : List α → World → Prop) (W : World), Below w.heap.size w W → AbidesT J → (∀ s T W, J s T W → Req W) →
    (∀ pre T U x vs W1, J pre (Both T U) W1 → Enc x U vs W1 → (∀ k, U k → ¬ T k) → pre ++ [x] <+: xs → YieldAt Fence.wide (n - 1) P l vs W1 fun e W' =>
      (e = .returned (.bool true) ∧ J (pre ++ [x]) T W' ∧ Below n₀ W1 W' ∧ KeepsT T W1 W') ∨ (e = .returned (.bool false) ∧ Jx (pre ++ [x]) W')) →
    J [] T0 W →
    CallsIn Fence.wide n P g (#[.func (.yield l) #[] #[]] ++ lb) W fun e W' => (∃ v, e = .returned v) ∧ ((∃ T, J xs T W') ∨ (∃ pre, pre <+: xs ∧ Jx pre W'))

theorem With_both (T U : Nat → Prop) (L D : Nat) : With (Both T U) L D = Both (With T L D) U := by
  funext k
  exact propext ⟨fun h => by rcases h with (h | h) | h; exact .inl (.inl h); exact .inr h; exact .inl (.inr h), fun h => by rcases h with (h | h) | h; exact .inl (.inl h); exact .inr h; exact .inl (.inr h)⟩

theorem wpIn_rangeFunc_G {α : Type} {g : Operand} {ps : Array Tmp} {assign body : Code} {Q : Exit → Act → World → Prop} {a : Act} {w : World}
    (h1 : 1 ≤ n) {gf : Nat} {lb : Array Value} (hg : a.eval g = .func (.func gf) #[] lb) (eg : ∀ args w, (callFunc gf args).run P w = .ok (.enter gf args) w)
    {Enc : α → (Nat → Prop) → Array Value → World → Prop} {Req : World → Prop} {n₀ : Nat} {xs : List α} {T0 : Nat → Prop} {w0 : World} (hseq : SeqGives (n - 1) P gf lb Enc Req n₀ xs T0 w0)
    (hn₀ : n₀ ≤ w.heap.size) (hb0 : Below w0.heap.size w0 w) (hT0 : ∀ k, T0 k → k < w.heap.size) (hps : ∀ x U vs W, Enc x U vs W → vs.size = ps.size)
    (hEnc : ∀ x U vs W W', Enc x U vs W → KeepsT U W W' → Below n₀ W W' → Enc x U vs W')
    (I : List α → (Nat → Prop) → World → Prop) (Ix : Code → List α → (Nat → Prop) → World → Prop) (hI : AbidesT I) (hReq : ∀ s T W, I s T W → Req W) (hIx : ∀ c, AbidesT (Ix c)) (h0 : I [] T0 w)
    (Ax : α → Array Value → Act → Prop)
    (hassign : ∀ (l : Nat) (pre : List α) (T U : Nat → Prop) (x : α) (vs : Array Value) (W : World) (K : Act → World → Prop), I pre (Both T U) W → Enc x U vs W → (∀ k, Both T U k → k < W.heap.size) → pre ++ [x] <+: xs → n₀ ≤ W.heap.size →
      (∀ a' W', KeepsT (Both T U) W W' → Below n₀ W W' → I pre (Both T U) W' → Ax x vs a' → K a' W') →
      assign.wpIn (Fence.wide.inRound l) (n - 1 - 1) P (Exit.then K (fun _ _ _ => False)) { tmps := (ps.zip vs).foldl (fun t (p, v) => t.setIfInBounds p v) a.tmps, defers := [] } W)
    (hbody : ∀ (l : Nat) (pre : List α) (T U : Nat → Prop) (x : α) (vs : Array Value) (a' : Act) (W : World), I pre (Both T U) W → Enc x U vs W → (∀ k, U k → ¬ T k) → (∀ k, Both T U k → k < W.heap.size) → Ax x vs a' → pre ++ [x] <+: xs → n₀ ≤ W.heap.size →
      body.wpIn (Fence.wide.inRound l) (n - 1 - 1) P (ownPostT T n₀ I Ix (pre ++ [x]) W) a' W)
    (hdone : ∀ (D : Nat) (T : Nat → Prop) (W : World), w.heap.size ≤ D → T D → I xs T W → W.heap[D]? = some (.deferred (some [])) → Q .normal { a with defers := { target := .collected D, args := #[] } :: a.defers } W)
    (hstop : ∀ (D : Nat) (c : Code) (pre : List α) (T : Nat → Prop) (W : World), w.heap.size ≤ D → T D → pre <+: xs → Ix c pre T W → W.heap[D]? = some (.deferred (some [])) → c.wpIn Fence.wide n P Q { a with defers := { target := .collected D, args := #[] } :: a.defers } W) :
    (Code.rangeFunc g ps assign body).wpIn Fence.wide n P Q a w := by
  refine wpIn_rangeFunc ?_
  intro fn hfn
  obtain ⟨rec, hrec⟩ : ∃ rec : LoopState → Option Code → Loop, rec = fun st pe => { state := st, pending := pe, fn, tmps := a.tmps, params := ps, assign, body, defers := w.heap.size } := ⟨_, rfl⟩
  obtain ⟨W1, hW1⟩ : ∃ W1, (w.alloc (.deferred (some []))).alloc (.loop (rec .ready none)) = W1 := ⟨_, rfl⟩
  have hL1 : W1.heap[w.heap.size + 1]? = some (.loop (rec .ready none)) := by
    rw [← hW1]; have := World.alloc_heap_new (w.alloc (.deferred (some []))) (.loop (rec .ready none)); rwa [World.size_alloc] at this
  have hK1 : W1.heap[w.heap.size]? = some (.deferred (some [])) := by
    rw [← hW1]; exact (Below.heap_alloc _ _ _ (by simp)).trans (World.alloc_heap_new w _)
  have hs1 : W1.heap.size = w.heap.size + 1 + 1 := by rw [← hW1]; simp
  obtain ⟨L, hL⟩ : ∃ L, L = w.heap.size + 1 := ⟨_, rfl⟩
  obtain ⟨D, hD⟩ : ∃ D, D = w.heap.size := ⟨_, rfl⟩
  have hDw : w.heap.size ≤ D := by omega
  have hI1 : I [] (With T0 L D) W1 := by
    refine hI [] T0 _ w W1 h0 ?_ ?_
    · rw [← hW1]; exact ((Moves.refl _ w).alloc _).alloc _
    · intro k hk
      rcases hk with hk | hk | hk
      · exact .inl hk
      · exact .inr ⟨by omega, by omega⟩
      · exact .inr ⟨by omega, by omega⟩
  have hb1 : Below w0.heap.size w0 W1 := by
    rw [← hW1]; exact hb0.trans ((((Below.refl _ w).alloc (Nat.le_refl _) _).alloc (by simp) _).mono hb0.size)
  refine ⟨L, [{ target := .collected D, args := #[] }], W1, { target := .fn (.func gf) lb, args := #[.func (.yield L) #[] #[]] }, W1, gf,
    #[.func (.yield L) #[] #[]] ++ lb, W1, ?_, ?_, ?_, ?_, fun _ => h1, ?_⟩
  · subst hL hD
    rw [← hW1, hrec]; exact run_enterLoop_outer _ _ _ _ _
  · simp only [resolve, hg]
    simp [go_sem]
  · intro f' hf'; trivial
  · simp [invoke, go_sem, eg]
  · rw [← hL] at hL1
    rw [← hD] at hK1
    refine (hseq L
      (fun pre T W => I pre (With T L D) W ∧ W.heap[L]? = some (.loop (rec .ready none)) ∧ W.heap[D]? = some (.deferred (some [])) ∧ ¬ T L ∧ ¬ T D ∧ (∀ k, T k → k < W.heap.size) ∧ n₀ ≤ W.heap.size)
      (fun pre W => ∃ c T, Ix c pre T W ∧ T L ∧ T D ∧ W.heap[L]? = some (.loop (rec .done (some c))) ∧ W.heap[D]? = some (.deferred (some [])))
      W1 hb1
      (fun s T T' A B hs hm ht => by
        obtain ⟨hi, hl, hk, nL, nD, hlt, hn⟩ := hs
        have hlA := (Array.getElem?_eq_some_iff.1 hl).1
        have hkA := (Array.getElem?_eq_some_iff.1 hk).1
        refine ⟨hI s _ _ A B hi (hm.more fun k h => .inl h) (fun k h => ?_), (hm.block L hlA nL).trans hl, (hm.block D hkA nD).trans hk, fun h => ?_, fun h => ?_, fun k h => ?_, Nat.le_trans hn hm.size⟩
        · rcases h with h | h
          · exact (ht k h).imp .inl id
          · exact .inl (.inr h)
        · rcases ht L h with h | h
          · exact nL h
          · omega
        · rcases ht D h with h | h
          · exact nD h
          · omega
        · rcases ht k h with h | h
          · exact Nat.lt_of_lt_of_le (hlt k h) hm.size
          · exact h.2)
      (fun s T W h => hReq _ _ _ h.1)
      ?_ ⟨hI1, hL1, hK1, fun h => by have := hT0 L h; omega, fun h => by have := hT0 D h; omega, fun k h => by have := hT0 k h; omega, by omega⟩).mono ?_
    · -- ONE ROUND
      rintro pre T U x vs W ⟨hi, hl, hk, nL2, nD2, hT2', hn⟩ henc hdis hpre
      rw [With_both] at hi
      have nL : ¬ T L := fun h => nL2 (.inl h)
      have nD : ¬ T D := fun h => nD2 (.inl h)
      have uL : ¬ U L := fun h => nL2 (.inr h)
      have uD : ¬ U D := fun h => nD2 (.inr h)
      have hT : ∀ k, T k → k < W.heap.size := fun k h => hT2' k (.inl h)
      have hdis2 : ∀ k, U k → ¬ With T L D k := fun k h h2 => by
        rcases h2 with h2 | h2 | h2
        · exact hdis k h h2
        · subst h2; exact uL h
        · subst h2; exact uD h
      have hlt : L < W.heap.size := (Array.getElem?_eq_some_iff.1 hl).1
      have hltD : D < W.heap.size := (Array.getElem?_eq_some_iff.1 hk).1
      have hy := run_yield (P := P) (args := vs) hl (by rw [hrec]; exact hps x U vs W henc)
      rw [hrec] at hy
      have hTW : ∀ k, Both (With T L D) U k → k < W.heap.size := by
        intro k h
        rcases h with (h | h | h) | h
        · exact hT k h
        · omega
        · omega
        · exact hT2' k (.inr h)
      refine ⟨fn, _, assign, body, hy, roundIn_of_wpIn hfn (hassign _ pre _ U x vs W _ hi henc hTW hpre hn ?_)⟩
      clear hy
      intro a' Wa hkfa hkpa hia hax
      have hla := (hkfa.same L (.inl (.inr (.inl rfl)))).trans hl
      have hka := (hkfa.same D (.inl (.inr (.inr rfl)))).trans hk
      have hlta : L < Wa.heap.size := (Array.getElem?_eq_some_iff.1 hla).1
      refine ⟨_, run_beginRound hla (by rw [hrec]), ?_⟩
      obtain ⟨W2, hW2⟩ : ∃ W2, W2 = Wa.putObj L (.loop { rec .ready none with state := .busy }) := ⟨_, rfl⟩
      have hl2 : W2.heap[L]? = some (.loop { rec .ready none with state := .busy }) := by rw [hW2]; exact World.putObj_heap_same hlta
      have hk2 : W2.heap[D]? = some (.deferred (some [])) := by rw [hW2]; exact (World.putObj_heap_other (by omega)).trans hka
      have hi2 : I pre (Both (With T L D) U) W2 := by rw [hW2]; exact hI.putObj hia (.inl (.inr (.inl rfl))) _
      have hs2 : W2.heap.size = Wa.heap.size := by rw [hW2]; simp [World.putObj]
      have hb2 : Below n₀ Wa W2 := by rw [hW2]; exact (Below.refl n₀ Wa).grown (grownBy_putObj' Wa L _) (Nat.le_trans hn hkfa.size) (fun k e => by cases e; omega)
      have hT2 : ∀ k, T k → W2.heap[k]? = W.heap[k]? := fun k h => by
        rw [hW2]; exact (World.putObj_heap_other (fun e => by subst e; exact nL h)).trans (hkfa.same k (.inl (.inl h)))
      have hU2 : KeepsT U W W2 := ⟨by rw [hs2]; exact hkfa.size, fun k h => by
        rw [hW2]; exact (World.putObj_heap_other (fun e => by subst e; exact uL h)).trans (hkfa.same k (.inr h))⟩
      have henc2 : Enc x U vs W2 := hEnc x U vs W W2 henc hU2 (hkpa.trans hb2)
      rw [← hW2]
      refine wpIn_mono (hbody _ pre _ U x vs a' _ hi2 henc2 hdis2 (fun k h => by rw [hs2]; exact Nat.lt_of_lt_of_le (hTW k h) hkfa.size) hax hpre (by rw [hs2]; exact Nat.le_trans hn hkfa.size)) ?_
      have fin : ∀ (jump : Option Code) (W3 : World), KeepsT (With T L D) W2 W3 →
          (Instr.endRound L jump).run P W3 = .ok (.bool jump.isNone) (W3.putObj L (.loop (rec (if jump.isNone then .ready else .done) jump))) ∧
          (W3.putObj L (.loop (rec (if jump.isNone then .ready else .done) jump))).heap[L]? = some (.loop (rec (if jump.isNone then .ready else .done) jump)) ∧
          (W3.putObj L (.loop (rec (if jump.isNone then .ready else .done) jump))).heap[D]? = some (.deferred (some [])) := fun jump W3 hk3 => by
        have hl3 := (hk3.same L (.inr (.inl rfl))).trans hl2
        have := run_endRound (P := P) jump hl3
        rw [hrec] at this ⊢
        exact ⟨this, World.putObj_heap_same (Array.getElem?_eq_some_iff.1 hl3).1, (World.putObj_heap_other (by omega)).trans ((hk3.same D (.inr (.inr rfl))).trans hk2)⟩
      rintro e a3 W3 hp
      cases e with
      | normal =>
        obtain ⟨hk3, hkp3, hi3⟩ := hp
        obtain ⟨hr, hl4, hk4⟩ := fin none W3 hk3
        have hsz : W.heap.size ≤ W3.heap.size := Nat.le_trans hkfa.size (by rw [← hs2]; exact hk3.size)
        have hbe : Below n₀ W (W3.putObj L (.loop (rec (if (none : Option Code).isNone then .ready else .done) none))) :=
          hkpa.trans (hb2.trans (hkp3.grown (grownBy_putObj' W3 L _) (by omega) (fun k e => by cases e; omega)))
        refine ⟨_, _, hr, .inl ⟨rfl, ⟨hI.putObj hi3 (.inr (.inl rfl)) _, hl4, hk4, nL, nD, fun k h => ?_, Nat.le_trans hn hbe.size⟩, hbe, ⟨hbe.size, fun k h => ?_⟩⟩⟩
        · exact Nat.lt_of_lt_of_le (hT k h) hbe.size
        · exact (World.putObj_heap_other (fun e => by subst e; exact nL h)).trans ((hk3.same k (.inl h)).trans (hT2 k h))
      | ret =>
        obtain ⟨hk3, hi3⟩ := hp
        obtain ⟨hr, hl4, hk4⟩ := fin (some .ret) W3 hk3
        exact ⟨_, _, hr, .inr ⟨rfl, .ret, _, (hIx _).putObj hi3 (.inr (.inl rfl)) _, .inr (.inl rfl), .inr (.inr rfl), hl4, hk4⟩⟩
      | exit id =>
        obtain ⟨hk3, hi3⟩ := hp
        obtain ⟨hr, hl4, hk4⟩ := fin (some (.exit id)) W3 hk3
        exact ⟨_, _, hr, .inr ⟨rfl, .exit id, _, (hIx _).putObj hi3 (.inr (.inl rfl)) _, .inr (.inl rfl), .inr (.inr rfl), hl4, hk4⟩⟩
      | goto t =>
        obtain ⟨hk3, hi3⟩ := hp
        obtain ⟨hr, hl4, hk4⟩ := fin (some (.goto t)) W3 hk3
        exact ⟨_, _, hr, .inr ⟨rfl, .goto t, _, (hIx _).putObj hi3 (.inr (.inl rfl)) _, .inr (.inl rfl), .inr (.inr rfl), hl4, hk4⟩⟩
      | panic ch => exact hp.elim
      | outgrown => exact hp.elim
    · -- BEHIND THE ITERATOR
      rintro e W2 ⟨⟨v, rfl⟩, (⟨T, hi, hl, hk, nL, nD, hT, hn⟩ | ⟨pre, hpre, c, T, hi, tL, tD, hl, hk⟩)⟩
      · exact ⟨none, _, by have := run_endLoop (P := P) hl (by rw [hrec]; simp); rw [hrec] at this; exact this, hdone D _ _ hDw (.inr (.inr rfl)) (hI.putObj hi (.inr (.inl rfl)) _) ((World.putObj_heap_other (by omega)).trans hk)⟩
      · exact ⟨some c, _, by have := run_endLoop (P := P) hl (by rw [hrec]; simp); rw [hrec] at this; exact this, hstop D c pre T _ hDw tD hpre ((hIx c).putObj hi tL _) ((World.putObj_heap_other (by omega)).trans hk)⟩
end
end Go.Proofs.Ytcdhndhgainadaa
