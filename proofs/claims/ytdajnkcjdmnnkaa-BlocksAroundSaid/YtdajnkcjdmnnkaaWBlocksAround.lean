/-
  THE WALK OF BlocksAround.
-/
import Derived.Test.YtdajnkcjdmnnkaaOpenC
import Derived.Test.YtdajnkcjdmnnkaaAroundF
import Derived.Test.YtdajnkcjdmnnkaaSplitLaw
namespace Go.Proofs.Ytdajnkcjdmnnkaa
open Go Go.RowKit
set_option linter.unusedVariables false

theorem piece_of_cur {l : List El} {i : Nat} (hi : i ≤ l.length) : ∃ s, (pieces l)[(emi l i).length]? = some s ∧ s.n = (cur l i).n ∧ s.r = (cur l i).r := by
  obtain ⟨t, Y, h⟩ := split_pieces ⟨0, 0, 0, false⟩ hi
  exact ⟨(cur l i).till t, by rw [h.one]; simp, rfl, rfl⟩
theorem emi_short {l : List El} {i : Nat} (hi : i ≤ l.length) : (emi l i).length < (pieces l).length := by
  have := (emi_prefix l hi).length_le
  simp [pieces]; omega
theorem emi_gone {l : List El} {k : Nat} {e : El} (h : l[k]? = some e) (hg : e.gone = true) : emi l (k + 1) = emi l k := emi_miss h (gone_not_bnd hg)

/-- over those that are gone nothing turns -/
def Alike (l : List El) (i j : Nat) : Prop := seen l j = seen l i ∧ since l j = since l i ∧ emi l j = emi l i ∧ cur l j = cur l i
theorem Alike.step {l : List El} {i j : Nat} {e : El} (h : Alike l i j) (he : l[j]? = some e) (hg : e.gone = true) : Alike l i (j + 1) := by
  obtain ⟨h1, h2, h3, h4⟩ := h
  refine ⟨?_, (since_gone he hg).trans h2, (emi_gone he hg).trans h3, (cur_miss he (gone_not_bnd hg)).trans h4⟩
  rw [seen_step he, hg]; simpa using h1

structure RC (W : World) (l : List El) (N gp : Nat) (wr : World) : Prop where
  rdP : Rd wr wr.heap.size 4 (some ⟨gp, 0, none⟩) N (sps (pieces l))
  below : Below W.heap.size W wr
theorem RC.next {W : World} {l : List El} {N gp : Nat} {wr w' : World} (h : RC W l N gp wr) (hb : Below wr.heap.size wr w') : RC W l N gp w' :=
  ⟨(h.rdP.below hb).more hb.size, h.below.trans (hb.mono h.below.size)⟩

set_option maxRecDepth 100000 in
set_option maxHeartbeats 2000000 in
theorem blocksAround.walk (W : World) (A : Option Addr) (n c : Nat) (l : List El) (k : ElsIn W A n c l) :
    Calls Try.prog 6 #[.slice A n c] W fun e w' => e = .returned (.bool true) ∧ Below W.heap.size W w' := by
  have K := Lib.hid k
  have hcap := k.cap
  have HMAX := Lib.hid k.max
  have HL := Lib.hid k.len
  clear k
  by_cases h200 : 200 < n
  · go_enter Try.func6, Try.ntmps6
    go_wp2_with fail
    refine (alive_any _).mono ?_
    rintro e w4 ⟨rfl, hB4⟩
    go_wp2_with fail
    go_ret
    exact ⟨rfl, hB4⟩
  go_enter Try.func6, Try.ntmps6
  go_wp2_with fail
  refine (pieces_any A n c l (by omega) _ K.out.rd).mono ?_
  rintro e w2 ⟨⟨A2, c2, rfl, hown2⟩, hB2⟩
  have hple := pieces_len l
  have hPN : (pieces l).length ≤ 201 := by have := HL.out; omega
  have hpos : 1 ≤ (pieces l).length := by rw [pieces_count]; omega
  obtain ⟨N, hN⟩ : ∃ N, (pieces l).length = N := ⟨_, rfl⟩
  have HN := Lib.hid hN
  rw [hN] at hpos hPN hown2 ⊢
  obtain ⟨gp, rfl, -, -⟩ := own_addr hown2 (by omega)
  have X2 : Hid (RC W l N gp w2) := Lib.hid ⟨Rd.of_own hown2, hB2⟩
  clear hown2 hB2 hple hN
  go_wp2_with fail
  go_loopw [4, 5, 6, 7] (fun a ch s i wr => ∃ i' : Nat, i' ≤ n ∧ i = .int .i64 i' ∧ s = .int .i64 (seen l i') ∧ ch = .int .i64 (since l i') ∧ a = .int .i64 ((emi l i').length : Nat) ∧ RC W l N gp wr) (fun _ _ _ i _ => n + 1 - (intOf i).toNat)
  case atStart => exact ⟨0, Nat.zero_le _, rfl, rfl, rfl, rfl, X2.out⟩
  case round =>
    clear X2
    obtain ⟨i, hi, rfl, rfl, rfl, rfl, hX⟩ := hrel
    have X := Lib.hid hX
    clear hX
    have hil : i ≤ l.length := by rw [HL.out]; exact hi
    have q1 := seen_le l i
    have q2 := since_le l i
    have q3 := emi_short hil
    rw [HN.out] at q3
    obtain ⟨s, hs, hs1, hs2⟩ := piece_of_cur hil
    obtain ⟨sn, hsn⟩ : ∃ x, seen l i = x := ⟨_, rfl⟩
    obtain ⟨kn, hkn⟩ : ∃ x, since l i = x := ⟨_, rfl⟩
    obtain ⟨an, han⟩ : ∃ x, (emi l i).length = x := ⟨_, rfl⟩
    rw [hsn] at q1
    rw [hkn] at q2
    rw [han] at q3 hs
    rw [hsn, hkn, han]
    have HSN := Lib.hid hsn
    have HKN := Lib.hid hkn
    have HAN := Lib.hid han
    have HS := Lib.hid hs
    have HS1 := Lib.hid hs1
    have HS2 := Lib.hid hs2
    have HIL := Lib.hid hil
    clear hsn hkn han hs hs1 hs2 hil
    have g0 : i ≤ n := hi
    go_wp2_with fail
    refine (around_any ((K.out.rd.below X.out.below).more X.out.below.size) (by omega) hcap HMAX.out (sn : Int) (by omega) (by omega)).mono ?_
    rintro e w5 ⟨b1, b2, kk, rfl, hA1, hB5⟩
    obtain ⟨hb1, hb2, hkk⟩ := hA1.at_ i HIL.out (by rw [HSN.out])
    rw [HKN.out] at hkk
    rw [← HS1.out] at hb1
    rw [← HS2.out] at hb2
    subst hb1 hb2 hkk
    have X5 := Lib.hid (X.out.next hB5)
    clear hB5 hA1 X HS1 HS2
    have X6 := Lib.hid (X5.out.next ((Below.refl _ w5).alloc (Nat.le_refl _) (.cells #[.int .i64 s.n, .int .i64 s.r] 27)))
    obtain ⟨bp, op, hbo, hbp, p0, p1, p2, p3⟩ := X6.out.rdP.sp HS.out
    injection hbo with hbo
    injection hbo with hb' hoff
    subst hb' hoff
    simp only [Nat.zero_add] at p0 p1 p2 p3
    have ga : decide (N ≤ an) = false := by simp; omega
    have ia : (an : Int) < (N : Int) := by omega
    clear X5
    go_wp2_with fail
    go_quiet (fail)
    have X7 : Hid (RC W l N gp ((w5.alloc (.cells #[.int .i64 s.n, .int .i64 s.r] 27)).drewN nq)) := Lib.hid (X6.out.next (below_draws (Below.refl _ _) nq))
    clear X6 p0 p1 p2 p3 hbp
    generalize ((w5.alloc (.cells #[.int .i64 s.n, .int .i64 s.r] 27)).drewN nq) = wd at *
    go_wp2_with fail
    go_loop [7] (fun ii => ∃ j : Nat, ii = .int .i64 j ∧ i ≤ j ∧ j ≤ n ∧ Hid (Alike l i j)) (fun ii => n - (intOf ii).toNat)
    case atStart => exact ⟨i, rfl, Nat.le_refl _, hi, Lib.hid ⟨rfl, rfl, rfl, rfl⟩⟩
    case round =>
      obtain ⟨j, rfl, hij, hjn, hal⟩ := hrel
      by_cases hlt : j < n
      · obtain ⟨e, he⟩ : ∃ e, l[j]? = some e := ⟨l[j]'(by rw [HL.out]; exact hlt), List.getElem?_eq_getElem _⟩
        obtain ⟨b, off, rfl, hb, c0, c1, c2', c3⟩ := (K.out.rd.below X7.out.below).el he
        have HE := Lib.hid he
        clear he
        obtain ⟨en, er, ech, eg⟩ := e
        simp only at c0 c1 c2' c3
        cases eg with
        | true =>
          have HAL := Lib.hid (hal.out.step HE.out rfl)
          go_wp2_with fail
          go_round
          case rel => exact ⟨j + 1, by go_num, by omega, by omega, HAL⟩
          case measure => simp [intOf]; omega
        | false =>
          have HSN1 : Hid (seen l (j + 1) = sn + 1) := Lib.hid (by rw [seen_step HE.out, hal.out.1, HSN.out]; rfl)
          by_cases hz : ech = 0
          · subst hz
            have HKN1 : Hid (since l (j + 1) = 0) := Lib.hid (since_bnd HE.out rfl)
            have HAN1 : Hid ((emi l (j + 1)).length = an + 1) := Lib.hid (by rw [emi_hit HE.out rfl, hal.out.2.2.1, ← HAN.out]; simp)
            go_wp2_with fail
            go_roundw
            case rel => exact ⟨j + 1, by omega, by go_num, by rw [HSN1.out]; go_num, by rw [HKN1.out]; rfl, by rw [HAN1.out]; go_num, X7.out⟩
            case measure => simp [intOf]; omega
          · have gz : (ech == 0) = false := by simpa using hz
            have HKN1 : Hid (since l (j + 1) = kn + 1) := Lib.hid (by rw [since_char HE.out rfl hz, hal.out.2.1, HKN.out])
            have HAN1 : Hid ((emi l (j + 1)).length = an) := Lib.hid (by rw [emi_miss HE.out (char_not_bnd hz), hal.out.2.2.1, HAN.out])
            go_wp2_with fail
            go_roundw
            case rel => exact ⟨j + 1, by omega, by go_num, by rw [HSN1.out]; go_num, by rw [HKN1.out]; go_num, by rw [HAN1.out], X7.out⟩
            case measure => simp [intOf]; omega
      · obtain rfl : j = n := by omega
        have hsn2 : seen l l.length = sn := by rw [HL.out, hal.out.1, HSN.out]
        have han2 : N = an + 1 := by
          have h1 := hal.out.2.2.1
          rw [← HN.out, ← HAN.out, ← h1]
          have : pieces l = emi l j ++ [(cur l j).till j] := by rw [← HL.out]; rfl
          rw [this]; simp
        have HSN2 := Lib.hid hsn2
        have R8 := Lib.hid ((K.out.rd.below X7.out.below).more X7.out.below.size)
        have iw : IntKind.i64.wrap ((sn : Int) + 1) = (sn : Int) + 1 := IntWalk.i64_in _ (by omega)
        subst han2
        clear hsn2
        go_wp2_with fail
        refine (around_any R8.out (by omega) hcap HMAX.out ((sn : Int) + 1) (by omega) (by omega)).mono ?_
        rintro e w9 ⟨d1, d2, dk, rfl, hA2, hB9⟩
        obtain ⟨rfl, rfl, rfl⟩ := hA2.over (by omega) (by rw [HSN2.out]; omega)
        have B9 := Lib.hid (X7.out.below.trans (hB9.mono X7.out.below.size))
        clear hA2 hB9 X7 R8
        have B10 := Lib.hid (B9.out.alloc B9.out.size (.cells #[.int .i64 0, .int .i64 0] 27))
        have Z10 : Hid (Box2 (w9.alloc (.cells #[.int .i64 0, .int .i64 0] 27)) w9.heap.size 27 (.int .i64 0) (.int .i64 0)) := Lib.hid (World.alloc_heap_new w9 _)
        go_wp2_with fail
        refine (around_any ((K.out.rd.below B10.out).more B10.out.size) (by omega) hcap HMAX.out (-1) (by omega) (by omega)).mono ?_
        rintro e w11 ⟨d1, d2, dk, rfl, hA3, hB11⟩
        obtain ⟨rfl, rfl, rfl⟩ := hA3.neg (by omega)
        have B11 := Lib.hid (B10.out.trans (hB11.mono B10.out.size))
        have Z11 : Box2 w11 w9.heap.size 27 (.int .i64 0) (.int .i64 0) := (hB11.block _ Z10.out.lt).trans Z10.out
        have HZ11 := Lib.hid Z11
        have Y12 : Hid (Box2 (w11.alloc (.cells #[.int .i64 0, .int .i64 0] 27)) w11.heap.size 27 (.int .i64 0) (.int .i64 0)) := Lib.hid (World.alloc_heap_new w11 _)
        have Z12 : Hid (Box2 (w11.alloc (.cells #[.int .i64 0, .int .i64 0] 27)) w9.heap.size 27 (.int .i64 0) (.int .i64 0)) := Lib.hid ((Below.heap_alloc _ _ _ Z11.lt).trans Z11)
        have B12 := Lib.hid (B11.out.alloc B11.out.size (.cells #[.int .i64 0, .int .i64 0] 27))
        clear hA3 hB11 Z11 B9 B10 Z10
        go_wp2_with fail
        refine (alive_any _).mono ?_
        rintro e w13 ⟨rfl, hB13⟩
        have Y13 : Box2 w13 w11.heap.size 27 (.int .i64 0) (.int .i64 0) := (hB13.block _ Y12.out.lt).trans Y12.out
        have Z13 : Box2 w13 w9.heap.size 27 (.int .i64 0) (.int .i64 0) := (hB13.block _ Z12.out.lt).trans Z12.out
        have y0 := Y13.c0
        have y1 := Y13.c1
        have z0 := Z13.c0
        have z1 := Z13.c1
        have B13 := Lib.hid (B12.out.trans (hB13.mono B12.out.size))
        have gg : ((an : Int) == ((an + 1 : Nat) : Int) - 1) = true := by simp
        have iw2 : IntKind.i64.wrap (((an + 1 : Nat) : Int) - 1) = ((an + 1 : Nat) : Int) - 1 := IntWalk.i64_in _ (by omega)
        clear hB13 Y13 Z13 Y12 Z12 B12
        go_wp2_with fail
        go_ret
        exact ⟨rfl, B13.out⟩
end Go.Proofs.Ytdajnkcjdmnnkaa
