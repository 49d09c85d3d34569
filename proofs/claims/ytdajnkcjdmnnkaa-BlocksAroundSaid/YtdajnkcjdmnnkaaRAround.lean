/-
  The contract of the document's Around.
-/
import Derived.Test.YtdajnkcjdmnnkaaSmall2
import Derived.Test.YtdajnkcjdmnnkaaAroundLaw
namespace Go.Proofs.Ytdajnkcjdmnnkaa
open Go Go.RowKit
set_option linter.unusedVariables false

/-- the answer: a block, and a number of characters -/
def AroundRet (l : List El) (n : Int) (w : World) (e : Ending) (w' : World) : Prop :=
  ∃ b1 b2 k : Int, e = .returned (.tuple #[.agg #[.int .i64 b1, .int .i64 b2], .int .i64 k]) ∧ AroundIs l n b1 b2 k ∧ Below w.heap.size w w'

theorem Box2.set {w : World} {B : Nat} {t : TypeId} {a b : Value} (h : Box2 w B t a b) (v0 v1 : Value) : Box2 ((w.setCell ⟨B, 0, none⟩ v0).setCell ⟨B, 1, none⟩ v1) B t v0 v1 := by
  have s1 : ∀ (w : World) (j : Nat) (v : Value) (cs : Array Value), w.heap[B]? = some (.cells cs t (0, 0)) → (w.setCell ⟨B, j, none⟩ v).heap[B]? = some (.cells (cs.setIfInBounds j v) t (0, 0)) := by
    intro w j v cs hw
    obtain ⟨hlt, hk⟩ := Array.getElem?_eq_some_iff.1 hw
    show (w.heap.modify B _)[B]? = _
    rw [Array.getElem?_eq_getElem (by rw [Array.size_modify]; exact hlt), Array.getElem_modify_self, hk]
    rfl
  exact s1 _ 1 v1 _ (s1 w 0 v0 _ h)
theorem Box2.fr {w : World} {B : Nat} {t : TypeId} {a b : Value} (h : Box2 w B t a b) (o : Nat) : w.frozen? ⟨B, o, none⟩ = false := by simp [World.frozen?, show w.heap[B]? = _ from h]

structure RA (w wr : World) (l : List El) (i : Nat) : Prop where
  res : Box2 wr w.heap.size 27 (.int .i64 0) (.int .i64 0)
  blk : Box2 wr (w.heap.size + 1) 27 (.int .i64 (cur l i).n) (.int .i64 (cur l i).r)
  below : Below w.heap.size w wr

theorem since_le (l : List El) : ∀ k, since l k ≤ k
  | 0 => Nat.le_refl _
  | k + 1 => by
    unfold since
    have := since_le l k
    split
    · split
      · omega
      · split <;> omega
    · omega

set_option maxRecDepth 100000 in
set_option maxHeartbeats 2000000 in
theorem raround_any {w : World} {B : Nat} {A : Option Addr} {n c : Nat} {l : List El} (hR : Rd w B 4 A n (els l)) (hB : B ≤ w.heap.size) (hn : n ≤ 100000) (at_ : Int) (hlo : -9223372036854775808 ≤ at_) (hhi : at_ < 9223372036854775808) :
    Calls Try.prog 15 #[.slice A n c, .int .i64 at_] w (AroundRet l at_ w) := by
  have hlen : l.length = n := by have := hR.1; rw [els_len] at this; omega
  have HL := Lib.hid hlen
  have HR := Lib.hid hR
  clear hlen hR
  go_enter Try.func15, Try.ntmps15
  go_wp2_with fail
  go_loopw [7, 8, 9] (fun k s i wr => ∃ (i' : Nat), i' ≤ n ∧ i = .int .i64 i' ∧ s = .int .i64 (seen l i') ∧ k = .int .i64 (since l i') ∧ (i' = 0 ∨ (seen l i' : Int) ≤ at_) ∧ RA w wr l i') (fun _ _ i _ => n - (intOf i).toNat)
  case atStart =>
    refine ⟨0, Nat.zero_le _, rfl, rfl, rfl, .inl rfl, (Below.heap_alloc _ _ _ (by simp)).trans (World.alloc_heap_new w _), ?_, ((Below.refl _ w).alloc (Nat.le_refl _) _).alloc (by simp) _⟩
    have := World.alloc_heap_new (w.alloc (.cells #[.int .i64 0, .int .i64 0] 27)) (.cells #[.int .i64 0, .int .i64 0] 27)
    rw [World.size_alloc] at this
    exact this
  case round =>
    obtain ⟨i, hi, rfl, rfl, rfl, hle, hS⟩ := hrel
    have S := Lib.hid hS
    have h1 := seen_le l i
    have h2 := since_le l i
    have r0 := hS.res.c0
    have r1 := hS.res.c1
    have b0 := hS.blk.c0
    have b1 := hS.blk.c1
    have rf := hS.res.fr
    have bf := hS.blk.fr
    clear hS
    obtain ⟨sn, hsn⟩ : ∃ x, seen l i = x := ⟨_, rfl⟩
    obtain ⟨kn, hkn⟩ : ∃ x, since l i = x := ⟨_, rfl⟩
    rw [hsn] at hle h1 ⊢
    rw [hkn] at h2 ⊢
    have HSN := Lib.hid hsn
    have HKN := Lib.hid hkn
    have HLE := Lib.hid hle
    clear hsn hkn hle
    by_cases hlt : i < n ∧ (sn : Int) < at_
    · obtain ⟨hin, hsa⟩ := hlt
      obtain ⟨e, he⟩ : ∃ e, l[i]? = some e := ⟨l[i]'(by rw [HL.out]; exact hin), List.getElem?_eq_getElem _⟩
      obtain ⟨b, off, rfl, hb, c0, c1, c2, c3⟩ := (HR.out.keep (fun p hp => S.out.below.cell (p := p) (by omega)) : Rd wr B 4 _ n (els l)).el he
      have HE := Lib.hid he
      clear he r0 r1 b0 b1 rf
      obtain ⟨en, er, ech, eg⟩ := e
      simp only at c0 c1 c2 c3
      have b0 := S.out.blk.c0
      have b1 := S.out.blk.c1
      cases eg with
      | true =>
        have HS1 : Hid (seen l (i + 1) = sn) := Lib.hid (by rw [seen_step HE.out, HSN.out]; rfl)
        have HK1 : Hid (since l (i + 1) = kn) := Lib.hid (by rw [since_gone HE.out rfl, HKN.out])
        have HC1 : Hid (cur l (i + 1) = cur l i) := Lib.hid (cur_miss HE.out (gone_not_bnd rfl))
        go_wp2_with fail
        go_roundw
        case rel => exact ⟨i + 1, by omega, by go_num, by rw [HS1.out], by rw [HK1.out], .inr (by rw [HS1.out]; omega), S.out.res, by rw [HC1.out]; exact S.out.blk, S.out.below⟩
        case measure => simp [intOf]; omega
      | false =>
        have HS1 : Hid (seen l (i + 1) = sn + 1) := Lib.hid (by rw [seen_step HE.out, HSN.out]; rfl)
        by_cases hz : ech = 0
        · subst hz
          have HK1 : Hid (since l (i + 1) = 0) := Lib.hid (since_bnd HE.out rfl)
          have HC1 : Hid (cur l (i + 1) = ⟨en, er, (i : Int) + 1, 0⟩) := Lib.hid (cur_hit HE.out rfl)
          have HRS : Hid (RA w ((wr.setCell ⟨w.heap.size + 1, 0, none⟩ (.int .i64 en)).setCell ⟨w.heap.size + 1, 1, none⟩ (.int .i64 er)) l (i + 1)) := Lib.hid
            ⟨((Below.heap_setCell _ _ _ _ (by simp)).trans (Below.heap_setCell _ _ _ _ (by simp))).trans S.out.res, by rw [HC1.out]; exact S.out.blk.set _ _, (S.out.below.setCell (p := ⟨w.heap.size + 1, 0, none⟩) (by simp) _).setCell (p := ⟨w.heap.size + 1, 1, none⟩) (by simp) _⟩
          go_wp2_with fail
          go_roundw
          case rel => exact ⟨i + 1, by omega, by go_num, by rw [HS1.out]; go_num, by rw [HK1.out]; rfl, .inr (by rw [HS1.out]; omega), HRS.out⟩
          case measure => simp [intOf]; omega
        · have g1 : (ech == 0) = false := by simpa using hz
          have HK1 : Hid (since l (i + 1) = kn + 1) := Lib.hid (by rw [since_char HE.out rfl hz, HKN.out])
          have HC1 : Hid (cur l (i + 1) = cur l i) := Lib.hid (cur_miss HE.out (char_not_bnd hz))
          go_wp2_with fail
          go_roundw
          case rel => exact ⟨i + 1, by omega, by go_num, by rw [HS1.out]; go_num, by rw [HK1.out]; go_num, .inr (by rw [HS1.out]; omega), S.out.res, by rw [HC1.out]; exact S.out.blk, S.out.below⟩
          case measure => simp [intOf]; omega
    · have hend : i = n ∨ at_ ≤ (sn : Int) := by omega
      by_cases hneg : at_ < 0
      · have hfin := AroundIs.of_neg (l := l) hneg
        have HF := Lib.hid hfin
        have HBF : Hid (Below w.heap.size w ((wr.setCell ⟨w.heap.size, 0, none⟩ (.int .i64 0)).setCell ⟨w.heap.size, 1, none⟩ (.int .i64 0))) := Lib.hid ((S.out.below.setCell (p := ⟨w.heap.size, 0, none⟩) (by simp) _).setCell (p := ⟨w.heap.size, 1, none⟩) (by simp) _)
        have g1 : decide (at_ < 0) = true := by simpa using hneg
        have g2 : ¬ ((sn : Int) < at_) := by omega
        clear hfin hlt hend
        by_cases hin : i < n
        all_goals
          go_wp2_with fail
          refine bodyPost_ret (v := .tuple #[.agg #[.int .i64 0, .int .i64 0], .int .i64 (-1)]) (by simp [results, Try.results15, go_sem, r0, r1]) rfl ?_
          exact ⟨0, 0, -1, rfl, HF.out, HBF.out⟩
      · have g0 : decide (at_ < 0) = false := by simpa using hneg
        by_cases hov : (sn : Int) < at_
        · have hin : i = n := by omega
          have hfin := AroundIs.of_over (l := l) (n := at_) (by rw [HL.out, ← hin, HSN.out]; exact hov)
          have HF := Lib.hid hfin
          have HBF : Hid (Below w.heap.size w ((wr.setCell ⟨w.heap.size, 0, none⟩ (.int .i64 0)).setCell ⟨w.heap.size, 1, none⟩ (.int .i64 0))) := Lib.hid ((S.out.below.setCell (p := ⟨w.heap.size, 0, none⟩) (by simp) _).setCell (p := ⟨w.heap.size, 1, none⟩) (by simp) _)
          have hni : ¬ (i < n) := by omega
          clear hfin hlt hend hin
          go_wp2_with fail
          refine bodyPost_ret (v := .tuple #[.agg #[.int .i64 0, .int .i64 0], .int .i64 (-1)]) (by simp [results, Try.results15, go_sem, r0, r1]) rfl ?_
          exact ⟨0, 0, -1, rfl, HF.out, HBF.out⟩
        · have hse : (seen l i : Int) = at_ := by
            rw [HSN.out]
            rcases HLE.out with h0 | h0
            · omega
            · omega
          have hfin := AroundIs.of_at (l := l) (i := i) (by rw [HL.out]; exact hi) hse
          have HF := Lib.hid hfin
          have HSE := Lib.hid hse
          obtain ⟨q1, hq1⟩ : ∃ x, (cur l i).n = x := ⟨_, rfl⟩
          obtain ⟨q2, hq2⟩ : ∃ x, (cur l i).r = x := ⟨_, rfl⟩
          rw [hq1, hq2, HKN.out] at HF
          rw [hq1] at b0
          rw [hq2] at b1
          have HBF : Hid (Below w.heap.size w ((wr.setCell ⟨w.heap.size, 0, none⟩ (.int .i64 q1)).setCell ⟨w.heap.size, 1, none⟩ (.int .i64 q2))) := Lib.hid ((S.out.below.setCell (p := ⟨w.heap.size, 0, none⟩) (by simp) _).setCell (p := ⟨w.heap.size, 1, none⟩) (by simp) _)
          clear hfin hlt hend hse hq1 hq2
          by_cases hin : i < n
          all_goals
            go_wp2_with fail
            refine bodyPost_ret (v := .tuple #[.agg #[.int .i64 q1, .int .i64 q2], .int .i64 (kn : Int)]) (by simp [results, Try.results15, go_sem, r0, r1]) rfl ?_
            exact ⟨q1, q2, kn, rfl, HF.out, HBF.out⟩
end Go.Proofs.Ytdajnkcjdmnnkaa
