/-
  The contract of Around.
-/
import Derived.Test.YtdajnkcjdmnnkaaRAround
import Derived.Test.YtdajnkcjdmnnkaaPiecesF
import Derived.RegionTactic
namespace Go.Proofs.Ytdajnkcjdmnnkaa
open Go Go.RowKit Go.Shelf
set_option linter.unusedVariables false
attribute [local go_sem] Oper.semAt_some

theorem around_neg {w : World} {A : Option Addr} {n c : Nat} {l : List El} (at_ : Int) (h : at_ < 0) :
    Calls Try.prog 14 #[.slice A n c, .int .i64 at_] w (AroundRet l at_ w) := by
  have HF := Lib.hid (AroundIs.of_neg (l := l) h)
  go_enter Try.func14, Try.ntmps14
  go_wp2_with fail
  refine bodyPost_ret (v := .tuple #[.agg #[.int .i64 0, .int .i64 0], .int .i64 (-1)]) (by simp [results, Try.results14, go_sem]) rfl ?_
  refine ⟨0, 0, -1, rfl, HF.out, ?_⟩
  exact (((((Below.refl _ w).alloc (Nat.le_refl _) _).alloc (by simp) _).alloc (by simp; omega) _).alloc (by simp; omega) _).alloc (by simp; omega) _

theorem halloc (w : World) (o : Obj) (k : Nat) : (w.alloc o).heap[k]? = if k = w.heap.size then some o else w.heap[k]? := by
  show (w.heap.push o)[k]? = _
  rw [Array.getElem?_push]

/-- between two rounds -/
structure AI (w : World) (A : Option Addr) (n c : Nat) (l : List El) (at_ : Int) (pre : List Sp) (T : Nat → Prop) (W : World) : Prop where
  num : ∃ m : Nat, Boxed W (w.heap.size + 1) 3 (.int .i64 m) ∧ (m : Int) + (taken l pre : Int) = at_
  lbox : Boxed W w.heap.size 22 (.slice A n c)
  res1 : Box2 W (w.heap.size + 2) 27 (.int .i64 0) (.int .i64 0)
  res2 : Boxed W (w.heap.size + 3) 3 (.int .i64 0)
  non : Box2 W (w.heap.size + 4) 27 (.int .i64 0) (.int .i64 0)
  below : Below w.heap.size w W
  notT : ∀ k, T k → w.heap.size + 5 ≤ k
/-- a round has returned -/
structure AX (w : World) (l : List El) (at_ : Int) (co : Code) (pre : List Sp) (T : Nat → Prop) (W : World) : Prop where
  ret : co = .ret
  size : w.heap.size + 5 ≤ W.heap.size
  res : ∃ b1 b2 k : Int, Box2 W (w.heap.size + 2) 27 (.int .i64 b1) (.int .i64 b2) ∧ Boxed W (w.heap.size + 3) 3 (.int .i64 k) ∧ AroundIs l at_ b1 b2 k
  below : Below w.heap.size w W
  notT : ∀ k, T k → w.heap.size + 5 ≤ k

theorem turns_low {T T' : Nat → Prop} {W W' : World} {b : Nat} (ht : Turns T T' W W') (h : ∀ k, T k → b ≤ k) (hb : b ≤ W.heap.size) : ∀ k, T' k → b ≤ k := by
  intro k hk
  rcases ht k hk with h1 | h1
  · exact h k h1
  · omega

theorem AI.abides (w : World) (A : Option Addr) (n c : Nat) (l : List El) (at_ : Int) : AbidesT (AI w A n c l at_) := by
  intro pre T T' W W' h hm ht
  have k : ∀ j, j < w.heap.size + 5 → j < W.heap.size → W'.heap[j]? = W.heap[j]? := fun j hj hl => hm.block j hl fun hT => by have := h.notT j hT; omega
  obtain ⟨m, hb, e⟩ := h.num
  have hsz : w.heap.size + 5 ≤ W.heap.size := by have := h.non.lt; omega
  exact ⟨⟨m, (k _ (by omega) hb.lt).trans hb, e⟩, (k _ (by omega) h.lbox.lt).trans h.lbox, (k _ (by omega) h.res1.lt).trans h.res1, (k _ (by omega) h.res2.lt).trans h.res2, (k _ (by omega) h.non.lt).trans h.non,
    h.below.trans (hm.below h.below.size fun j hj => by have := h.notT j hj; omega), turns_low ht h.notT hsz⟩
theorem AX.abides (w : World) (l : List El) (at_ : Int) (co : Code) : AbidesT (AX w l at_ co) := by
  intro pre T T' W W' h hm ht
  have k : ∀ j, j < w.heap.size + 5 → j < W.heap.size → W'.heap[j]? = W.heap[j]? := fun j hj hl => hm.block j hl fun hT => by have := h.notT j hT; omega
  obtain ⟨b1, b2, kk, h1, h2, h3⟩ := h.res
  refine ⟨h.ret, Nat.le_trans h.size hm.size, ⟨b1, b2, kk, (k _ (by omega) h1.lt).trans h1, (k _ (by omega) h2.lt).trans h2, h3⟩, h.below.trans (hm.below h.below.size fun j hj => by have := h.notT j hj; omega), ?_⟩
  exact turns_low ht h.notT h.size

/-- a round returns: whichever of the two stores comes first -/
theorem around_ret {w W wq wl : World} {A : Option Addr} {n c : Nat} {l : List El} {at_ : Int} {pre pre' : List Sp} {T : Nat → Prop} {xn xr k : Int} {a : Act} {I : List Sp → (Nat → Prop) → World → Prop} (hI : AI w A n c l at_ pre T W) (hTl : ∀ k, T k → k < W.heap.size)
    (hB : Below W.heap.size W wq) (h1 : Box2 wq (w.heap.size + 2) 27 (.int .i64 0) (.int .i64 0)) (h2 : Boxed wq (w.heap.size + 3) 3 (.int .i64 0)) (hA : AroundIs l at_ xn xr k)
    (hw : wl = (((wq.setCell ⟨w.heap.size + 2, 0, none⟩ (.int .i64 xn)).setCell ⟨w.heap.size + 2, 1, none⟩ (.int .i64 xr)).setCell ⟨w.heap.size + 3, 0, none⟩ (.int .i64 k)).drew ∨
      wl = (((wq.setCell ⟨w.heap.size + 3, 0, none⟩ (.int .i64 k)).setCell ⟨w.heap.size + 2, 0, none⟩ (.int .i64 xn)).setCell ⟨w.heap.size + 2, 1, none⟩ (.int .i64 xr)).drew) :
    ownPostT T w.heap.size I (AX w l at_) pre' W Exit.ret a wl := by
  have hsz : w.heap.size + 5 ≤ W.heap.size := by have := hI.non.lt; omega
  rcases hw with rfl | rfl
  · have keep : ∀ j, j ≠ w.heap.size + 2 → j ≠ w.heap.size + 3 → j < W.heap.size → ((((wq.setCell ⟨w.heap.size + 2, 0, none⟩ (.int .i64 xn)).setCell ⟨w.heap.size + 2, 1, none⟩ (.int .i64 xr)).setCell ⟨w.heap.size + 3, 0, none⟩ (.int .i64 k)).drew).heap[j]? = W.heap[j]? :=
      fun j a1 a2 hl => ((Below.heap_setCell _ _ _ _ a2).trans ((Below.heap_setCell _ _ _ _ a1).trans (Below.heap_setCell _ _ _ _ a1))).trans (hB.block j hl)
    have hB2 : Below w.heap.size W ((((wq.setCell ⟨w.heap.size + 2, 0, none⟩ (.int .i64 xn)).setCell ⟨w.heap.size + 2, 1, none⟩ (.int .i64 xr)).setCell ⟨w.heap.size + 3, 0, none⟩ (.int .i64 k)).drew) :=
      ((((hB.mono hI.below.size).setCell (p := ⟨w.heap.size + 2, 0, none⟩) (by simp) _).setCell (p := ⟨w.heap.size + 2, 1, none⟩) (by simp) _).setCell (p := ⟨w.heap.size + 3, 0, none⟩) (by simp) _).drew
    refine ⟨⟨hB2.size, fun j hj => keep j (fun e => by have := hI.notT j hj; omega) (fun e => by have := hI.notT j hj; omega) (hTl j hj)⟩, rfl, Nat.le_trans hsz hB2.size, ⟨xn, xr, k, ?_, ?_, hA⟩, hI.below.trans hB2, hI.notT⟩
    · exact (Below.heap_setCell _ _ _ _ (by simp)).trans (h1.set _ _)
    · refine Boxed.set (v := .int .i64 0) _ ?_
      exact ((Below.heap_setCell _ _ _ _ (by simp)).trans (Below.heap_setCell _ _ _ _ (by simp))).trans h2
  · have keep : ∀ j, j ≠ w.heap.size + 2 → j ≠ w.heap.size + 3 → j < W.heap.size → ((((wq.setCell ⟨w.heap.size + 3, 0, none⟩ (.int .i64 k)).setCell ⟨w.heap.size + 2, 0, none⟩ (.int .i64 xn)).setCell ⟨w.heap.size + 2, 1, none⟩ (.int .i64 xr)).drew).heap[j]? = W.heap[j]? :=
      fun j a1 a2 hl => ((Below.heap_setCell _ _ _ _ a1).trans ((Below.heap_setCell _ _ _ _ a1).trans (Below.heap_setCell _ _ _ _ a2))).trans (hB.block j hl)
    have hB2 : Below w.heap.size W ((((wq.setCell ⟨w.heap.size + 3, 0, none⟩ (.int .i64 k)).setCell ⟨w.heap.size + 2, 0, none⟩ (.int .i64 xn)).setCell ⟨w.heap.size + 2, 1, none⟩ (.int .i64 xr)).drew) :=
      ((((hB.mono hI.below.size).setCell (p := ⟨w.heap.size + 3, 0, none⟩) (by simp) _).setCell (p := ⟨w.heap.size + 2, 0, none⟩) (by simp) _).setCell (p := ⟨w.heap.size + 2, 1, none⟩) (by simp) _).drew
    refine ⟨⟨hB2.size, fun j hj => keep j (fun e => by have := hI.notT j hj; omega) (fun e => by have := hI.notT j hj; omega) (hTl j hj)⟩, rfl, Nat.le_trans hsz hB2.size, ⟨xn, xr, k, ?_, ?_, hA⟩, hI.below.trans hB2, hI.notT⟩
    · exact Box2.set ((Below.heap_setCell _ _ _ _ (by simp)).trans h1) _ _
    · exact ((Below.heap_setCell _ _ _ _ (by simp)).trans (Below.heap_setCell _ _ _ _ (by simp))).trans (Boxed.set _ h2)

/-- the function's return -/
theorem around_end {w W : World} {l : List El} {n : Int} {D : Nat} {b1 b2 k : Int} {tmps : Array Value} (hD : w.heap.size + 5 ≤ D) (hK : W.heap[D]? = some (.deferred (some [])))
    (h1 : Box2 W (w.heap.size + 2) 27 (.int .i64 b1) (.int .i64 b2)) (h2 : Boxed W (w.heap.size + 3) 3 (.int .i64 k)) (hB : Below w.heap.size w W) (hA : AroundIs l n b1 b2 k)
    (t4 : tmps.getD 4 undef = .pointer (some ⟨w.heap.size + 2, 0, none⟩) := by rfl) (t5 : tmps.getD 5 undef = .pointer (some ⟨w.heap.size + 3, 0, none⟩) := by rfl) :
    bodyPostM Fence.wide 6 Try.prog Try.f14 (AroundRet l n w) Exit.ret { tmps := tmps, defers := [{ target := .collected D, args := #[] }] } W := by
  rw [Array.getD_eq_getD_getElem?] at t4 t5
  refine ⟨by simp, .inl ⟨_, _, rfl, run_takeDeferred hK, ?_⟩⟩
  have e1 : (W.putObj D (.deferred none)).heap[w.heap.size + 2]? = W.heap[w.heap.size + 2]? := World.putObj_heap_other (by omega)
  have e2 : (W.putObj D (.deferred none)).heap[w.heap.size + 3]? = W.heap[w.heap.size + 3]? := World.putObj_heap_other (by omega)
  have k1 : Box2 (W.putObj D (.deferred none)) (w.heap.size + 2) 27 (.int .i64 b1) (.int .i64 b2) := e1.trans h1
  have k2 : Boxed (W.putObj D (.deferred none)) (w.heap.size + 3) 3 (.int .i64 k) := e2.trans h2
  have c0 := k1.c0
  have c1 := k1.c1
  have c2 := k2.cell
  refine ⟨.tuple #[.agg #[.int .i64 b1, .int .i64 b2], .int .i64 k], ?_, b1, b2, k, rfl, hA, hB.grown (grownBy_putObj' W D _) hB.size (fun j e => by cases e; omega)⟩
  simp [results, Try.f14, go_sem, c0, c1, c2, t4, t5]

set_option maxRecDepth 100000 in
set_option maxHeartbeats 2000000 in
theorem around_pos {w : World} {A : Option Addr} {n c : Nat} {l : List El} (hR : Rd w w.heap.size 4 A n (els l)) (hn : n ≤ 1000) (hc : n ≤ c) (hcm : c ≤ maxLen) (at_ : Int) (h0 : 0 ≤ at_) (hhi : at_ < 9223372036854775808) :
    Calls Try.prog 14 #[.slice A n c, .int .i64 at_] w (AroundRet l at_ w) := by
  obtain ⟨a0, rfl⟩ := Int.eq_ofNat_of_zero_le h0
  clear h0
  refine (callsIn_wide (n := 6)).1 ?_
  have hlen : l.length = n := by have := hR.1; rw [els_len] at this; omega
  have HL := Lib.hid hlen
  have HR := Lib.hid hR
  have HHI := Lib.hid hhi
  clear hlen hR hhi
  unfold maxLen at hcm
  have gn : decide ((a0 : Int) < 0) = false := by simp
  refine callsIn_of_wp_marks Try.func14 rfl trivial ?_ rfl
  simp only [Try.ntmps14, List.size_toArray, List.length_cons, List.length_nil, Nat.reduceAdd, Nat.reduceSub, Array.replicate_succ, Array.replicate_zero, List.push_toArray, List.append_toArray, List.nil_append, List.cons_append]
  gi_wp2_with fail
  refine ⟨trivial, ?_⟩
  refine (mk_any 5 _ _ _ _).mono ?_
  rintro e w' ⟨rfl, rfl⟩
  gi_wp2_with fail
  simp only [Nat.add_assoc, Nat.reduceAdd]
  obtain ⟨W0, hW0⟩ : ∃ W0, ((((((w.alloc (.cells #[.slice A n c] 22)).alloc (.cells #[.int .i64 (a0 : Int)] 3)).alloc (.cells #[.int .i64 0, .int .i64 0] 27)).alloc (.cells #[.int .i64 0] 3)).alloc (.cells #[.int .i64 0, .int .i64 0] 27)).alloc (.cells #[.slice A n c] 22)) = W0 := ⟨_, rfl⟩
  have hs0 : W0.heap.size = w.heap.size + 6 := by rw [← hW0]; simp
  have x0 : W0.heap[w.heap.size]? = some (.cells #[.slice A n c] 22 (0, 0)) := by
    rw [← hW0]; simp only [halloc, World.size_alloc]
    repeat (first | rw [if_pos trivial] | rw [if_pos (by omega)] | rw [if_neg (by omega)])
  have x1 : W0.heap[w.heap.size + 1]? = some (.cells #[.int .i64 (a0 : Int)] 3 (0, 0)) := by
    rw [← hW0]; simp only [halloc, World.size_alloc]
    repeat (first | rw [if_pos trivial] | rw [if_pos (by omega)] | rw [if_neg (by omega)])
  have x2 : W0.heap[w.heap.size + 2]? = some (.cells #[.int .i64 0, .int .i64 0] 27 (0, 0)) := by
    rw [← hW0]; simp only [halloc, World.size_alloc]
    repeat (first | rw [if_pos trivial] | rw [if_pos (by omega)] | rw [if_neg (by omega)])
  have x3 : W0.heap[w.heap.size + 3]? = some (.cells #[.int .i64 0] 3 (0, 0)) := by
    rw [← hW0]; simp only [halloc, World.size_alloc]
    repeat (first | rw [if_pos trivial] | rw [if_pos (by omega)] | rw [if_neg (by omega)])
  have x4 : W0.heap[w.heap.size + 4]? = some (.cells #[.int .i64 0, .int .i64 0] 27 (0, 0)) := by
    rw [← hW0]; simp only [halloc, World.size_alloc]
    repeat (first | rw [if_pos trivial] | rw [if_pos (by omega)] | rw [if_neg (by omega)])
  have x5 : W0.heap[w.heap.size + 5]? = some (.cells #[.slice A n c] 22 (0, 0)) := by
    rw [← hW0]; simp only [halloc, World.size_alloc]
    repeat (first | rw [if_pos trivial] | rw [if_pos (by omega)] | rw [if_neg (by omega)])
  have hB0 : Below w.heap.size w W0 := by
    rw [← hW0]; exact ((((((Below.refl _ w).alloc (Nat.le_refl _) _).alloc (by simp) _).alloc (by simp; omega) _).alloc (by simp; omega) _).alloc (by simp; omega) _).alloc (by simp; omega) _
  rw [hW0]
  refine wpIn_rangeFunc_T (n := 6) (by omega) (gf := 22) (lb := #[.pointer (some ⟨w.heap.size + 5, 0, none⟩)]) rfl (enters_of Try.func22 (by kernel_rfl) rfl)
    (pieces_stops 5 (by omega) (w.heap.size + 5) w.heap.size A n c l (by unfold maxLen; omega) W0 (by omega) x5 (by omega) (HR.out.below hB0)) (by omega) (Below.refl _ _) (fun k hk => by omega) (fun _ => rfl)
    (AI w A n c l a0) (AX w l a0) (AI.abides w A n c l a0) (AX.abides w l a0)
    ⟨⟨a0, x1, by simp [taken]⟩, x0, x2, x3, x4, hB0, fun k hk => by omega⟩
    (fun x a' T W => ∃ Bx, Box4 W Bx 31 (.int .i64 x.n) (.int .i64 x.r) (.int .i64 x.f) (.int .i64 x.t) ∧ ¬ T Bx ∧ w.heap.size + 5 ≤ Bx ∧ a' = { tmps := #[.slice A n c, .int .i64 (a0 : Int), .pointer (some ⟨w.heap.size, 0, none⟩), .pointer (some ⟨w.heap.size + 1, 0, none⟩), .pointer (some ⟨w.heap.size + 2, 0, none⟩), .pointer (some ⟨w.heap.size + 3, 0, none⟩), .pointer (some ⟨w.heap.size + 4, 0, none⟩), .pointer (some ⟨Bx, 0, none⟩), undef, undef, undef, .agg #[.int .i64 0, .int .i64 0], .int .i64 (a0 : Int), .bool false, undef, .slice A n c, .func (.func 22) #[] #[.pointer (some ⟨w.heap.size + 5, 0, none⟩)], x.val,
      undef, undef, undef, undef, undef, undef, undef, undef, undef, undef, undef, undef, undef, undef, undef, undef, undef, undef, undef, undef, undef, undef, undef, undef, undef, undef, undef, undef, undef, undef, undef], defers := [] })
    ?hAx ?assign ?body ?done ?stop
  case hAx =>
    rintro x a' _ T T' W W' ⟨Bx, hb, hT, hlt, rfl⟩ hm ht
    refine ⟨Bx, (hm.block Bx hb.lt hT).trans hb, fun h => ?_, hlt, rfl⟩
    rcases ht Bx h with h1 | h1
    · exact hT h1
    · have := hb.lt; omega
  case assign =>
    rintro lo pre T x W K hI hTl _ _ hK
    simp only [Sp.val]
    gi_wp2
    have hsz : w.heap.size + 5 ≤ W.heap.size := by have := hI.non.lt; omega
    refine hK _ _ ((KeepsT.refl T W).alloc hTl _) ((Below.refl _ W).alloc hI.below.size _) (AI.abides w A n c l a0 _ _ _ _ _ hI ((Moves.refl T W).alloc _) (Turns.refl _ _ _)) ⟨W.heap.size, World.alloc_heap_new W _, fun h => by have := hTl _ h; omega, hsz, rfl⟩
  case body =>
    rintro lo pre T x a' W hI hTl ⟨Bx, hb, hTx, hltx, rfl⟩ hpre hn0
    have hmem : x ∈ pieces l := List.mem_of_getElem? (prefix_at hpre)
    obtain ⟨f, t, hf, ht, hft, htn⟩ := pieces_in hmem
    obtain ⟨m, hnb, hmt⟩ := hI.num
    have htk := taken_at l pre x hpre
    have hts := taken_snoc l pre x
    have hsince : ∀ y : Nat, f ≤ y → y ≤ t → since l y + seen l f = seen l y := fun y h1 h2 => piece_since hmem hf h1 (by omega)
    have hstay : ∀ y : Nat, f ≤ y → y ≤ t → cur l y = ⟨x.n, x.r, x.f, 0⟩ := fun y h1 h2 => piece_stays hmem y (by omega) (by omega)
    obtain ⟨xn, xr, xf, xt⟩ := x
    simp only at hf ht
    subst hf ht
    simp only [Int.toNat_natCast] at htk hts
    have htn' : t ≤ n := by have := HL.out; omega
    have hsub := rd_sub (HR.out.below hI.below) hc hft htn'
    obtain ⟨A', hA'⟩ : ∃ A', (if c = f then A else A.map (·.add (f * 4))) = A' := ⟨_, rfl⟩
    rw [hA'] at hsub
    obtain ⟨L, hL⟩ : ∃ L, (l.drop f).take (t - f) = L := ⟨_, rfl⟩
    rw [hL] at hsub
    obtain ⟨N, hN⟩ : ∃ N, t - f = N := ⟨_, rfl⟩
    rw [hN] at hsub
    have HLg : Hid (∀ i, i < N → L[i]? = l[f + i]?) := Lib.hid fun i hi => by
      rw [← hL, List.getElem?_take, if_pos (by omega), List.getElem?_drop]
    have HS := Lib.hid hsub
    have HI := Lib.hid hI
    have HSI := Lib.hid hsince
    have HST := Lib.hid hstay
    have HTK := Lib.hid htk
    have HTS := Lib.hid hts
    have HMT := Lib.hid hmt
    have HNB := Lib.hid hnb
    have HBX := Lib.hid hb
    have HN' := Lib.hid hN
    have hNn : N ≤ 1000 := by omega
    have hma : m ≤ a0 := by omega
    have i1 : (f : Int) ≤ (t : Int) := by omega
    have n0 := hnb.cell
    have l0 := hI.lbox.cell
    have s0 := hb.c0
    have s1 := hb.c1
    have s2 := hb.c2
    have s3 := hb.c3
    clear hsub hL hI hsince hstay htk hts hmt hnb hb hmem
    gi_wp2_with fail
    clear n0 l0 s0 s1 s2 s3 hA' hN
    gi_loopw [8, 25] (fun kk ii wr => ∃ i k : Nat, ii = .int .i64 i ∧ kk = .int .i64 k ∧ i ≤ N ∧ k ≤ i ∧ k ≤ m ∧ Hid (seen l f + k = seen l (f + i)) ∧ Below W.heap.size W wr) (fun _ ii _ => N - (intOf ii).toNat)
    case atStart => exact ⟨0, 0, rfl, rfl, Nat.zero_le _, Nat.le_refl _, Nat.zero_le _, Lib.hid rfl, Below.refl _ _⟩
    case round =>
      obtain ⟨i, k, rfl, rfl, hi, hki, hkm, hsk, hBr⟩ := hrel
      have BR := Lib.hid hBr
      clear hBr
      have nb : Boxed wr (w.heap.size + 1) 3 (.int .i64 m) := (BR.out.block _ HNB.out.lt).trans HNB.out
      have n0 := nb.cell
      by_cases hiN : i < N
      · by_cases hkm2 : m = k
        · have gk : ((m : Int) == (k : Int)) = true := by simp; omega
          obtain ⟨e, he⟩ : ∃ e, l[f + i]? = some e := ⟨l[f + i]'(by have := HN'.out; omega), List.getElem?_eq_getElem _⟩
          obtain ⟨b, off, rfl, hb, c0, c1, c2, c3⟩ := (HS.out.keep (fun p hp => BR.out.cell (p := p) (by omega)) : Rd wr w.heap.size 4 _ N (els L)).el ((HLg.out i hiN).trans he)
          have nb' : ∀ o, (wr.alloc o).cell? ⟨w.heap.size + 1, 0, none⟩ = some (.int .i64 m) := fun o => (nb.alloc o).cell
          clear he n0
          gi_wp2_with fail
          have hBq : Below W.heap.size W (wr.alloc (.cells #[.int .i64 e.n, .int .i64 e.r, .int .i64 e.ch, .bool e.gone] 29)) := BR.out.alloc BR.out.size _
          generalize (wr.alloc (.cells #[.int .i64 e.n, .int .i64 e.r, .int .i64 e.ch, .bool e.gone] 29)) = wq at *
          have hnq : Boxed wq (w.heap.size + 1) 3 (.int .i64 m) := (hBq.block _ HNB.out.lt).trans HNB.out
          have hbq : Box4 wq Bx 31 (.int .i64 xn) (.int .i64 xr) (.int .i64 (f : Int)) (.int .i64 (t : Int)) := (hBq.block _ HBX.out.lt).trans HBX.out
          have hr1 : Box2 wq (w.heap.size + 2) 27 (.int .i64 0) (.int .i64 0) := (hBq.block _ HI.out.res1.lt).trans HI.out.res1
          have hr2 : Boxed wq (w.heap.size + 3) 3 (.int .i64 0) := (hBq.block _ HI.out.res2.lt).trans HI.out.res2
          have d0 := hnq.cell
          have d1 := hbq.c0
          have d2 := hbq.c1
          have d3 := hr1.c0
          have d4 := hr1.c1
          have d5 := hr1.fr
          have d6 := hr2.cell
          have d7 := hr2.frozen
          have HR1 := Lib.hid hr1
          have HR2 := Lib.hid hr2
          have HBQ := Lib.hid hBq
          clear nb' nb c0 c1 c2 c3 hBq hnq hbq hr1 hr2
          have hfin : AroundIs l (a0 : Int) xn xr (m : Int) := by
            have h1 := hsk.out
            have h2 := HMT.out
            have h3 := HTK.out
            have h4 := HSI.out (f + i) (by omega) (by have := HN'.out; omega)
            have h5 := HST.out (f + i) (by omega) (by have := HN'.out; omega)
            have h6 := AroundIs.of_at (l := l) (n := (a0 : Int)) (i := f + i) (by have := HN'.out; omega) (by omega)
            rw [h5] at h6
            simp only at h6
            have h7 : since l (f + i) = m := by omega
            rw [h7] at h6
            exact h6
          have HFIN := Lib.hid hfin
          clear hfin
          subst hkm2
          gi_region
          all_goals
            gi_wp2_with fail
            exact around_ret HI.out hTl HBQ.out HR1.out HR2.out HFIN.out (by first | exact .inl rfl | exact .inr rfl)
        · have gk : ((m : Int) == (k : Int)) = false := by simp; omega
          obtain ⟨e, he⟩ : ∃ e, l[f + i]? = some e := ⟨l[f + i]'(by have := HN'.out; omega), List.getElem?_eq_getElem _⟩
          obtain ⟨b, off, rfl, hb, c0, c1, c2, c3⟩ := (HS.out.keep (fun p hp => BR.out.cell (p := p) (by omega)) : Rd wr w.heap.size 4 _ N (els L)).el ((HLg.out i hiN).trans he)
          have hstep := seen_step he
          have HST2 := Lib.hid hstep
          have nb' : ∀ o, (wr.alloc o).cell? ⟨w.heap.size + 1, 0, none⟩ = some (.int .i64 m) := fun o => (nb.alloc o).cell
          clear he hstep n0
          obtain ⟨en, er, ech, eg⟩ := e
          simp only at c0 c1 c2 c3
          cases eg with
          | true =>
            have HS1 : Hid (seen l f + k = seen l (f + (i + 1))) := Lib.hid (by
              have h1 := HST2.out
              have h2 := hsk.out
              have e : f + (i + 1) = f + i + 1 := rfl
              rw [e, h1]; simp; omega)
            gi_wp2_with fail
            go_roundw
            case rel => exact ⟨i + 1, k, by go_num, rfl, by omega, by omega, hkm, HS1, BR.out.alloc BR.out.size _⟩
            case measure => simp [intOf]; omega
          | false =>
            have HS1 : Hid (seen l f + (k + 1) = seen l (f + (i + 1))) := Lib.hid (by
              have h1 := HST2.out
              have h2 := hsk.out
              have e : f + (i + 1) = f + i + 1 := rfl
              rw [e, h1]; simp; omega)
            gi_wp2_with fail
            go_roundw
            case rel => exact ⟨i + 1, k + 1, by go_num, by go_num, by omega, by omega, by omega, HS1, BR.out.alloc BR.out.size _⟩
            case measure => simp [intOf]; omega
      · obtain rfl : i = N := by omega
        by_cases hkm2 : m = k
        · have gk : ((m : Int) == (k : Int)) = true := by simp; omega
          have hfin : AroundIs l (a0 : Int) xn xr (m : Int) := by
            have h1 := hsk.out
            have h2 := HMT.out
            have h3 := HTK.out
            have h4 := HSI.out (f + i) (by omega) (by have := HN'.out; omega)
            have h5 := HST.out (f + i) (by omega) (by have := HN'.out; omega)
            have h6 := AroundIs.of_at (l := l) (n := (a0 : Int)) (i := f + i) (by have := HN'.out; omega) (by omega)
            rw [h5] at h6
            simp only at h6
            have h7 : since l (f + i) = m := by omega
            rw [h7] at h6
            exact h6
          have HFIN := Lib.hid hfin
          clear hfin
          subst hkm2
          gi_wp2_with fail
          have hbq : Box4 wr Bx 31 (.int .i64 xn) (.int .i64 xr) (.int .i64 (f : Int)) (.int .i64 (t : Int)) := (BR.out.block _ HBX.out.lt).trans HBX.out
          have hr1 : Box2 wr (w.heap.size + 2) 27 (.int .i64 0) (.int .i64 0) := (BR.out.block _ HI.out.res1.lt).trans HI.out.res1
          have hr2 : Boxed wr (w.heap.size + 3) 3 (.int .i64 0) := (BR.out.block _ HI.out.res2.lt).trans HI.out.res2
          have d1 := hbq.c0
          have d2 := hbq.c1
          have d3 := hr1.c0
          have d4 := hr1.c1
          have d5 := hr1.fr
          have d6 := hr2.cell
          have d7 := hr2.frozen
          have HR1 := Lib.hid hr1
          have HR2 := Lib.hid hr2
          clear nb hbq hr1 hr2
          gi_region
          all_goals
            gi_wp2_with fail
            exact around_ret HI.out hTl BR.out HR1.out HR2.out HFIN.out (by first | exact .inl rfl | exact .inr rfl)
        · have gk : ((m : Int) == (k : Int)) = false := by simp; omega
          have nf := nb.frozen
          have hw : IntKind.i64.wrap ((m : Int) - ((k : Int) + 1)) = (m : Int) - ((k : Int) + 1) := IntWalk.i64_in _ (by have := HHI.out; omega)
          gi_wp2_with fail
          have hB2 : Below w.heap.size W (wr.setCell ⟨w.heap.size + 1, 0, none⟩ (.int .i64 ((m : Int) - ((k : Int) + 1)))) := (BR.out.mono HI.out.below.size).setCell (p := ⟨w.heap.size + 1, 0, none⟩) (by simp) _
          have keep : ∀ j, j ≠ w.heap.size + 1 → j < W.heap.size → (wr.setCell ⟨w.heap.size + 1, 0, none⟩ (.int .i64 ((m : Int) - ((k : Int) + 1)))).heap[j]? = W.heap[j]? := fun j hj hl => (Below.heap_setCell _ _ _ _ hj).trans (BR.out.block j hl)
          refine ⟨⟨hB2.size, fun j hj => keep j (fun e => by have := HI.out.notT j hj; omega) (hTl j hj)⟩, hB2, ?_⟩
          refine ⟨⟨m - (k + 1), ?_, ?_⟩, (keep _ (by omega) HI.out.lbox.lt).trans HI.out.lbox, (keep _ (by omega) HI.out.res1.lt).trans HI.out.res1, (keep _ (by omega) HI.out.res2.lt).trans HI.out.res2, (keep _ (by omega) HI.out.non.lt).trans HI.out.non, HI.out.below.trans hB2, HI.out.notT⟩
          · have em : (m : Int) - ((k : Int) + 1) = ((m - (k + 1) : Nat) : Int) := by omega
            rw [em]
            exact nb.set _
          · have h1 := HTS.out
            have h2 := HMT.out
            have h3 := hsk.out
            have h4 : f + i = t := by have := HN'.out; omega
            rw [h4] at h3
            rw [h1]
            have h5 : (pre ++ [({ n := xn, r := xr, f := (f : Int), t := (t : Int) } : Sp)]) = pre ++ [⟨xn, xr, f, t⟩] := rfl
            omega
  case done =>
    rintro D T W hD hTD hI hK
    have r0 := hI.non.c0
    have r1 := hI.non.c1
    have p0 := hI.res1.c0
    have p1 := hI.res1.c1
    have pf := hI.res1.fr
    have q0 := hI.res2.cell
    have qf := hI.res2.frozen
    have HI := Lib.hid hI
    clear hI
    gi_wp2_with fail
    have HR2 : Box2 (((W.setCell ⟨w.heap.size + 2, 0, none⟩ (.int .i64 0)).setCell ⟨w.heap.size + 2, 1, none⟩ (.int .i64 0)).setCell ⟨w.heap.size + 3, 0, none⟩ (.int .i64 (-1))) (w.heap.size + 2) 27 (.int .i64 0) (.int .i64 0) :=
      (Below.heap_setCell _ _ _ _ (by simp)).trans (HI.out.res1.set _ _)
    have HR3 : Boxed (((W.setCell ⟨w.heap.size + 2, 0, none⟩ (.int .i64 0)).setCell ⟨w.heap.size + 2, 1, none⟩ (.int .i64 0)).setCell ⟨w.heap.size + 3, 0, none⟩ (.int .i64 (-1))) (w.heap.size + 3) 3 (.int .i64 (-1)) := by
      refine Boxed.set (v := .int .i64 0) _ ?_
      exact ((Below.heap_setCell _ _ _ _ (by simp)).trans (Below.heap_setCell _ _ _ _ (by simp))).trans HI.out.res2
    have hK' : (((W.setCell ⟨w.heap.size + 2, 0, none⟩ (.int .i64 0)).setCell ⟨w.heap.size + 2, 1, none⟩ (.int .i64 0)).setCell ⟨w.heap.size + 3, 0, none⟩ (.int .i64 (-1))).heap[D]? = some (.deferred (some [])) :=
      ((Below.heap_setCell _ _ _ _ (by simp; omega)).trans ((Below.heap_setCell _ _ _ _ (by simp; omega)).trans (Below.heap_setCell _ _ _ _ (by simp; omega)))).trans hK
    have HBF := ((HI.out.below.setCell (p := ⟨w.heap.size + 2, 0, none⟩) (by simp) (.int .i64 0)).setCell (p := ⟨w.heap.size + 2, 1, none⟩) (by simp) (.int .i64 0)).setCell (p := ⟨w.heap.size + 3, 0, none⟩) (by simp) (.int .i64 (-1))
    have hov : (seen l l.length : Int) < (a0 : Int) := by
      obtain ⟨m, _, h2⟩ := HI.out.num
      have := taken_all l
      omega
    exact around_end (by omega) hK' HR2 HR3 HBF (AroundIs.of_over hov)
  case stop =>
    rintro D co pre T W hD hTD hpre hX hK
    obtain rfl := hX.ret
    gi_wp2_with fail
    obtain ⟨b1, b2, k, h1, h2, h3⟩ := hX.res
    exact around_end (by omega) hK h1 h2 hX.below h3

theorem around_any {w : World} {A : Option Addr} {n c : Nat} {l : List El} (hR : Rd w w.heap.size 4 A n (els l)) (hn : n ≤ 1000) (hc : n ≤ c) (hcm : c ≤ maxLen) (at_ : Int) (hlo : -9223372036854775808 ≤ at_) (hhi : at_ < 9223372036854775808) :
    Calls Try.prog 14 #[.slice A n c, .int .i64 at_] w (AroundRet l at_ w) := by
  by_cases h : at_ < 0
  · exact around_neg at_ h
  · exact around_pos hR hn hc hcm at_ (by omega) hhi
end Go.Proofs.Ytdajnkcjdmnnkaa
