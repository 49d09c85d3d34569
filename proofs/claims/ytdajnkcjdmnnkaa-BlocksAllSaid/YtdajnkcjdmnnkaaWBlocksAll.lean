/-
  THE WALK OF BlocksAll.
-/
import Derived.Test.YtdajnkcjdmnnkaaOpenC
import Derived.Test.YtdajnkcjdmnnkaaSmall
import Derived.Test.YtdajnkcjdmnnkaaAllLaw
namespace Go.Proofs.Ytdajnkcjdmnnkaa
open Go Go.RowKit
set_option linter.unusedVariables false

/-- where the i-th piece must begin -/
def ahead (l : List El) (i : Nat) : Nat := if i = 0 then 0 else (((pieces l)[i - 1]?).elim 0 fun s => s.t.toNat)

theorem piece_head {l : List El} {i a : Nat} {sn sr : Int} {f t : Nat} (h : (pieces l)[i]? = some ⟨sn, sr, f, t⟩) (h0 : ¬ i = 0) (ha : a = ahead l i) : ∃ e, l[a]? = some e ∧ bnd e = true ∧ e.n = sn ∧ e.r = sr := by
  obtain ⟨j, rfl⟩ : ∃ j, i = j + 1 := ⟨i - 1, by omega⟩
  obtain ⟨s, hs⟩ : ∃ s, (pieces l)[j]? = some s := by
    refine ⟨(pieces l)[j]'?_, List.getElem?_eq_getElem _⟩
    rcases Nat.lt_or_ge (j + 1) (pieces l).length with h1 | h1
    · omega
    · rw [List.getElem?_eq_none h1] at h; cases h
  obtain ⟨t', e, e1, e3, e4, e5, e6, e2⟩ := pieces_step hs h
  have : ahead l (j + 1) = t' := (by unfold ahead; rw [if_neg (by omega)]; simp [hs, e1])
  exact ⟨e, by rw [ha, this]; exact e3, e4, e5.symm, e6.symm⟩
theorem ahead_succ {l : List El} {i : Nat} {s : Sp} {t : Nat} (h : (pieces l)[i]? = some s) (ht : s.t = (t : Int)) : t = ahead l (i + 1) := by
  unfold ahead
  rw [if_neg (by omega)]
  simp [h, ht]
theorem ahead_from {l : List El} {i a : Nat} {sn sr : Int} {f t : Nat} (h : (pieces l)[i]? = some ⟨sn, sr, f, t⟩) (ha : ahead l i = a) : f = if i = 0 then 0 else a + 1 := by
  by_cases h0 : i = 0
  · subst h0
    have := (pieces_first h).1
    simp at this
    simp [this]
  · rw [if_neg h0]
    obtain ⟨j, rfl⟩ : ∃ j, i = j + 1 := ⟨i - 1, by omega⟩
    obtain ⟨s, hs⟩ : ∃ s, (pieces l)[j]? = some s := by
      refine ⟨(pieces l)[j]'?_, List.getElem?_eq_getElem _⟩
      rcases Nat.lt_or_ge (j + 1) (pieces l).length with h1 | h1
      · omega
      · rw [List.getElem?_eq_none h1] at h; cases h
    obtain ⟨t', e, e1, _, _, _, _, e2⟩ := pieces_step hs h
    have : ahead l (j + 1) = t' := (ahead_succ hs e1).symm
    simp at e2
    omega
theorem piece_text {l : List El} {i a : Nat} {sn sr : Int} {f t : Nat} (h : (pieces l)[i]? = some ⟨sn, sr, f, t⟩) (hft : f ≤ t) (ht : t ≤ l.length) (ha : a = ahead l i) : txtOf (l.take t) = txtOf (l.take a) ++ text l f t := by
  rw [text_piece hft ht]
  congr 1
  have hfa := ahead_from h ha.symm
  by_cases h0 : i = 0
  · rw [if_pos h0] at hfa
    have : a = 0 := by rw [ha, h0]; rfl
    rw [hfa, this]
  · rw [if_neg h0] at hfa
    obtain ⟨j, rfl⟩ : ∃ j, i = j + 1 := ⟨i - 1, by omega⟩
    obtain ⟨s, hs⟩ : ∃ s, (pieces l)[j]? = some s := by
      refine ⟨(pieces l)[j]'?_, List.getElem?_eq_getElem _⟩
      rcases Nat.lt_or_ge (j + 1) (pieces l).length with h1 | h1
      · omega
      · rw [List.getElem?_eq_none h1] at h; cases h
    obtain ⟨t', e, e1, e3, e4, _, _, e2⟩ := pieces_step hs h
    have : ahead l (j + 1) = t' := (ahead_succ hs e1).symm
    have hat : a = t' := by omega
    subst hat
    rw [hfa, txt_miss e3 (bnd_not_vis e4)]
theorem text_len (l : List El) (f t : Int) : (text l f t).length ≤ l.length := by
  unfold text
  split
  · simp
  · refine Nat.le_trans (txtOf_len _) ?_
    rw [List.length_take, List.length_drop]
    omega

structure AllRel (W : World) (l : List El) (i a : Nat) (b2 : Nat) (wr : World) : Prop where
  iN : i ≤ (pieces l).length
  a_eq : a = ahead l i
  a_le : a ≤ l.length
  rd : Rd wr wr.heap.size 4 (some ⟨b2, 0, none⟩) (pieces l).length (sps (pieces l))
  below : Below W.heap.size W wr

theorem mem_at {α : Type} {l : List α} {i : Nat} {x : α} (h : l[i]? = some x) : x ∈ l := List.mem_of_getElem? h

set_option maxRecDepth 100000 in
set_option maxHeartbeats 2000000 in
theorem blocksAll.walk (W : World) (A : Option Addr) (n c : Nat) (l : List El) (k : ElsIn W A n c l) :
    Calls Try.prog 3 #[.slice A n c] W fun e w' => e = .returned (.bool true) ∧ Below W.heap.size W w' := by
  have K := Lib.hid k
  have hcap := k.cap
  have hmax := k.max
  have HL := Lib.hid k.len
  clear k
  unfold maxLen at hmax
  by_cases h200 : 200 < n
  · go_enter Try.func3, Try.ntmps3
    go_wp2_with fail
    refine (alive_any _).mono ?_
    rintro e w4 ⟨rfl, hB4⟩
    go_wp2_with fail
    go_ret
    exact ⟨rfl, hB4⟩
  go_enter Try.func3, Try.ntmps3
  go_wp2_with fail
  refine (pieces_any A n c l (by omega) _ K.out.rd).mono ?_
  rintro e w2 ⟨⟨A2, c2, rfl, hown⟩, hB2⟩
  have hpos : 1 ≤ (pieces l).length := by rw [pieces_count]; omega
  have hple := pieces_len l
  have hPN : (pieces l).length ≤ 201 := by have := HL.out; omega
  obtain ⟨g, c2', hv, _, _⟩ := hown.form (by omega)
  injection hv with hA hc'
  subst hA
  have RP := Lib.hid (Rd.of_own hown)
  have HB2 := Lib.hid hB2
  have hcp2 := (own_slice hown)
  clear hown hB2 hcp2 hple hc'
  obtain ⟨N, hN⟩ : ∃ N, (pieces l).length = N := ⟨_, rfl⟩
  have HN := Lib.hid hN
  rw [hN] at hpos hPN RP ⊢
  clear hN
  go_wp2_with fail
  go_loopw [4, 5, 6] (fun s a i wr => ∃ (i' a' : Nat), i = .int .i64 i' ∧ a = .int .i64 a' ∧ s = .string (str8 (txtOf (l.take a'))) ∧ AllRel W l i' a' g wr) (fun _ _ i _ => N - (intOf i).toNat)
  case atStart => exact ⟨0, 0, rfl, rfl, rfl, Nat.zero_le _, rfl, Nat.zero_le _, by rw [HN.out]; exact RP.out, HB2.out⟩
  case round =>
    obtain ⟨i, a, rfl, rfl, rfl, hRel⟩ := hrel
    have R := Lib.hid hRel
    have hiN : i ≤ N := by have := hRel.iN; rw [HN.out] at this; exact this
    have hal : a ≤ n := by have := hRel.a_le; rw [HL.out] at this; exact this
    clear hRel
    by_cases hlt : i < N
    · obtain ⟨s, hs⟩ : ∃ s, (pieces l)[i]? = some s := ⟨(pieces l)[i]'(by rw [HN.out]; exact hlt), List.getElem?_eq_getElem _⟩
      obtain ⟨f, t, hf, ht, hft, htn⟩ := pieces_in (mem_at hs)
      obtain ⟨b, off, hbo, hb, c0, c1, c2, c3⟩ := R.out.rd.sp hs
      injection hbo with hbo
      injection hbo with hb' hoff
      subst hb' hoff
      obtain ⟨sn, sr, sf, st⟩ := s
      simp only at hf ht c0 c1 c2 c3
      subst hf ht
      simp only [Nat.zero_add] at c0 c1 c2 c3
      have HS := Lib.hid hs
      have HTL := Lib.hid htn
      have htn' : t ≤ n := by have := HL.out; omega
      have HST : Hid ((⟨sn, sr, (f : Int), (t : Int)⟩ : Sp).t = (t : Int)) := Lib.hid rfl
      have hfa : f = if i = 0 then 0 else a + 1 := ahead_from hs (by rw [← R.out.a_eq])
      have HTP : Hid (txtOf (l.take t) = txtOf (l.take a) ++ text l f t) := Lib.hid (piece_text hs hft htn R.out.a_eq)
      have hs0 := hs
      clear hs htn
      by_cases hi0 : i = 0
      · have ha0 : a = 0 := by have := R.out.a_eq; rw [this, hi0]; rfl
        have hf0 : f = 0 := by rw [hfa, if_pos hi0]
        subst ha0 hf0
        clear hfa hs0
        have RL := Lib.hid (K.out.rd.below R.out.below)
        have BW := Lib.hid R.out.below
        have RQ := Lib.hid (HN.out ▸ R.out.rd)
        have gi : decide (0 < i) = false := by simp [hi0]
        have HI0 := Lib.hid hi0
        clear hi0
        have ca : Int.natAbs 0 = 0 := rfl
        clear ca
        go_wp2_with fail
        refine (text_any (RL.out) (BW.out.size) (by omega) hcap (by unfold maxLen; omega) _ _ _ _ (by omega) (by omega)).mono ?_
        rintro e w3 ⟨rfl, hB3⟩
        have HB3 := Lib.hid (BW.out.trans (hB3.mono BW.out.size))
        have d3 : wr.cell? ⟨g, i * 4 + 3, none⟩ = some (.int .i64 t) := c3
        have c3' : w3.cell? ⟨g, i * 4 + 3, none⟩ = some (.int .i64 t) := (hB3.cell (p := ⟨g, i * 4 + 3, none⟩) hb).trans c3
        have R3 := Lib.hid ((RQ.out.below hB3).more hB3.size)
        have hsz : ¬ 9223372036854775807 < (str8 (txtOf (l.take 0))).size + (str8 (text l 0 t)).size := by
          have h1 := txtOf_len (l.take 0)
          have h2 : (l.take 0).length ≤ 0 := List.length_take_le _ _
          have h3 := text_len l 0 t
          rw [str8_size, str8_size]
          have := HL.out
          omega
        have HTX := Lib.hid (HTP.out)
        clear c0 c1 c2 c3 d3 hB3
        go_wp2_with fail
        go_roundw
        case rel => exact ⟨i + 1, t, by go_num, rfl, congrArg Value.string (by rw [HTX.out, str8_append]; rfl), by rw [HN.out]; omega, ahead_succ HS.out rfl, HTL.out, by rw [HN.out]; exact R3.out, HB3.out⟩
        case measure => simp [intOf]; omega

      · have hfa' : f = a + 1 := by rw [hfa, if_neg hi0]
        subst hfa'
        obtain ⟨e, he, hbe, hen, her⟩ := piece_head hs0 hi0 R.out.a_eq
        obtain ⟨en, er, ech, eg⟩ := e
        simp only at hen her
        subst hen her
        obtain ⟨hz, hg⟩ := bnd_parts hbe
        simp only at hz hg
        subst hz hg
        have han : a < n := by
          rcases Nat.lt_or_ge a l.length with h1 | h1
          · have := HL.out; omega
          · rw [List.getElem?_eq_none h1] at he; cases he
        have RL := Lib.hid (K.out.rd.below R.out.below)
        obtain ⟨b, off, rfl, hbb, e0, e1, e2, e3⟩ := RL.out.el he
        have BWr := Lib.hid R.out.below
        have RQr := Lib.hid (HN.out ▸ R.out.rd)
        have gi : decide (0 < i) = true := by simp; omega
        have ga : decide (n ≤ a) = false := by simp; omega
        have ia : (a : Int) < (n : Int) := by omega
        have HI0 := Lib.hid hi0
        have ec : ((a + 1 : Nat) : Int) = (a : Int) + 1 := by omega
        rw [ec] at c2 HTP
        have HEC := Lib.hid ec
        clear ec
        have HC2 := Lib.hid c2
        have HC3 := Lib.hid c3
        have hw1 : IntKind.i64.wrap ((a : Int) + 1) = (a : Int) + 1 := IntWalk.i64_in _ (by omega)
        clear hs0 he hbe hi0 hfa R RL
        go_wp2_with fail
        go_quiet (fail)
        have BW := Lib.hid (below_draws BWr.out nq)
        have RQ : Hid (Rd (wr.drewN nq) (wr.drewN nq).heap.size 4 (some ⟨g, 0, none⟩) N (sps (pieces l))) := Lib.hid (RQr.out.keep fun _ _ => rfl)
        have RL := Lib.hid (K.out.rd.below BW.out)
        have hbd : g < (wr.drewN nq).heap.size := hb
        have k2 : (wr.drewN nq).cell? ⟨g, i * 4 + 2, none⟩ = some (.int .i64 ((a : Int) + 1)) := HC2.out
        have k3 : (wr.drewN nq).cell? ⟨g, i * 4 + 3, none⟩ = some (.int .i64 (t : Int)) := HC3.out
        have k0 : (wr.drewN nq).cell? ⟨g, i * 4, none⟩ = some (.int .i64 en) := c0
        have k1 : (wr.drewN nq).cell? ⟨g, i * 4 + 1, none⟩ = some (.int .i64 er) := c1
        clear c0 c1 c2 c3 e0 e1 e2 e3 HC2 HC3 BWr RQr hb hw1
        generalize wr.drewN nq = wd at *
        have c0 := k0
        have c1 := k1
        have c2 := k2
        have c3 := k3
        have hb := hbd
        clear k0 k1 k2 k3 hbd
        have ca : Int.natAbs 0 = 0 := rfl
        clear ca
        go_wp2_with fail
        refine (text_any (RL.out) (BW.out.size) (by omega) hcap (by unfold maxLen; omega) _ _ _ _ (by omega) (by omega)).mono ?_
        rintro e w3 ⟨rfl, hB3⟩
        have HB3 := Lib.hid (BW.out.trans (hB3.mono BW.out.size))
        have d3 : wd.cell? ⟨g, i * 4 + 3, none⟩ = some (.int .i64 t) := c3
        have c3' : w3.cell? ⟨g, i * 4 + 3, none⟩ = some (.int .i64 t) := (hB3.cell (p := ⟨g, i * 4 + 3, none⟩) hb).trans c3
        have R3 := Lib.hid ((RQ.out.below hB3).more hB3.size)
        have hsz : ¬ 9223372036854775807 < (str8 (txtOf (l.take a))).size + (str8 (text l ((a : Int) + 1) t)).size := by
          have h1 := txtOf_len (l.take a)
          have h2 : (l.take a).length ≤ a := List.length_take_le _ _
          have h3 := text_len l ((a : Int) + 1) t
          rw [str8_size, str8_size]
          have := HL.out
          omega
        have HTX := Lib.hid (HTP.out)
        clear c0 c1 c2 c3 d3 hB3
        go_wp2_with fail
        go_roundw
        case rel => exact ⟨i + 1, t, by go_num, rfl, congrArg Value.string (by rw [HTX.out, str8_append]), by rw [HN.out]; omega, ahead_succ HS.out rfl, HTL.out, by rw [HN.out]; exact R3.out, HB3.out⟩
        case measure => simp [intOf]; omega

    · obtain rfl : i = N := by omega
      have hlast : a = n := by
        obtain ⟨s, hs⟩ : ∃ s, (pieces l)[(pieces l).length - 1]? = some s := ⟨(pieces l)[(pieces l).length - 1]'(by rw [HN.out]; omega), List.getElem?_eq_getElem _⟩
        have h1 := pieces_last hs
        have h2 := ahead_succ hs h1
        have h3 : (pieces l).length - 1 + 1 = i := by rw [HN.out]; omega
        rw [h3] at h2
        have := R.out.a_eq
        have := HL.out
        omega
      subst hlast
      have htx : txtOf (l.take a) = txtOf l := by rw [← HL.out, List.take_length]
      rw [htx]
      have BW := Lib.hid R.out.below
      have RQ := Lib.hid (HN.out ▸ R.out.rd)
      have HCN : Hid (i = l.countP bnd + 1) := Lib.hid (by rw [← pieces_count, HN.out])
      have HR := Lib.hid (K.out.rd.below BW.out)
      clear htx R
      go_wp2_with fail
      go_loopw [7, 8] (fun m j wq => ∃ (j' m' : Nat), j' ≤ a ∧ j = .int .i64 j' ∧ m = .int .i64 m' ∧ Hid (m' = (l.take j').countP bnd) ∧ m' ≤ j' ∧ Below W.heap.size W wq) (fun _ j _ => a - (intOf j).toNat)
      case atStart => exact ⟨0, 0, Nat.zero_le _, rfl, rfl, Lib.hid (by simp), Nat.le_refl _, BW.out⟩
      case round =>
        clear HR BW RQ
        obtain ⟨j, m, hj, rfl, rfl, hm, hmj, hBq⟩ := hrel
        have BQ := Lib.hid hBq
        clear hBq
        by_cases hjl : j < a
        · obtain ⟨e, he⟩ : ∃ e, l[j]? = some e := ⟨l[j]'(by rw [HL.out]; exact hjl), List.getElem?_eq_getElem _⟩
          obtain ⟨b, off, rfl, hbb, e0, e1, e2, e3⟩ := (K.out.rd.below BQ.out).el he
          have hstep : (l.take (j + 1)).countP bnd = (l.take j).countP bnd + (if bnd e then 1 else 0) := by rw [take_one he, List.countP_append]; simp [List.countP_cons]
          have HST := Lib.hid hstep
          clear he hstep
          obtain ⟨en, er, ech, eg⟩ := e
          simp only at e0 e1 e2 e3
          cases hbn : bnd ⟨en, er, ech, eg⟩ with
          | true =>
            obtain ⟨hz, hg⟩ := bnd_parts hbn
            simp only at hz hg
            subst hz hg
            have HM : Hid (m + 1 = (l.take (j + 1)).countP bnd) := Lib.hid (by rw [HST.out, ← hm.out, hbn]; rfl)
            clear hbn
            go_wp2_with fail
            go_roundw
            case rel => exact ⟨j + 1, m + 1, by omega, by go_num, by go_num, HM, by omega, BQ.out⟩
            case measure => simp [intOf]; omega
          | false =>
            have HM : Hid (m = (l.take (j + 1)).countP bnd) := Lib.hid (by rw [HST.out, ← hm.out, hbn]; rfl)
            by_cases hz : ech = 0
            · subst hz
              have hg : eg = true := by cases eg with | true => rfl | false => simp [bnd] at hbn
              subst hg
              clear hbn
              go_wp2_with fail
              go_roundw
              case rel => exact ⟨j + 1, m, by omega, by go_num, rfl, HM, by omega, BQ.out⟩
              case measure => simp [intOf]; omega
            · have g1 : (ech == 0) = false := by simpa using hz
              clear hbn
              go_wp2_with fail
              go_roundw
              case rel => exact ⟨j + 1, m, by omega, by go_num, rfl, HM, by omega, BQ.out⟩
              case measure => simp [intOf]; omega
        · obtain rfl : j = a := by omega
          have hmi : i = m + 1 := by rw [HCN.out, hm.out, ← HL.out, List.take_length]
          subst hmi
          clear hm HCN
          go_wp2_with fail
          refine (alive_any _).mono ?_
          rintro e w4 ⟨rfl, hB4⟩
          have B4 := Lib.hid (BQ.out.trans (hB4.mono BQ.out.size))
          have R4 := Lib.hid (K.out.rd.below B4.out)
          clear hB4
          have gm : (((m + 1 : Nat) : Int) == (m : Int) + 1) = true := by simp
          go_wp2_with fail
          refine (shown_any R4.out B4.out.size (by omega)).mono ?_
          rintro e w5 ⟨rfl, hB5⟩
          go_wp2_with fail
          go_ret
          exact ⟨by simp, B4.out.trans (hB5.mono B4.out.size)⟩
end Go.Proofs.Ytdajnkcjdmnnkaa
