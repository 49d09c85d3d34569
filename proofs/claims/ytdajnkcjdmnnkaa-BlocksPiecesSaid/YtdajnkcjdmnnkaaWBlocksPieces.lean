/-
  THE WALK OF BlocksPieces.
-/
import Derived.Test.YtdajnkcjdmnnkaaOpenC
import Derived.Test.YtdajnkcjdmnnkaaRPieces
import Derived.Test.YtdajnkcjdmnnkaaAroundF
namespace Go.Proofs.Ytdajnkcjdmnnkaa
open Go Go.RowKit
set_option linter.unusedVariables false

/-- what holds while the loop runs -/
structure PCtx (W : World) (A1 : Option Addr) (n : Nat) (l : List El) (N gp : Nat) (sn sr sf st : Int) (wr : World) : Prop where
  rd : Rd wr wr.heap.size 4 A1 n (els l)
  rdP : Rd wr wr.heap.size 4 (some ⟨gp, 0, none⟩) N (sps (pieces l))
  box : Box4 wr W.heap.size 31 (.int .i64 sn) (.int .i64 sr) (.int .i64 sf) (.int .i64 st)
  below : Below W.heap.size W wr
theorem PCtx.next {W : World} {A1 : Option Addr} {n : Nat} {l : List El} {N gp : Nat} {sn sr sf st : Int} {wr w' : World} (h : PCtx W A1 n l N gp sn sr sf st wr) (hb : Below wr.heap.size wr w') : PCtx W A1 n l N gp sn sr sf st w' :=
  ⟨(h.rd.below hb).more hb.size, (h.rdP.below hb).more hb.size, (hb.block _ h.box.lt).trans h.box, h.below.trans (hb.mono h.below.size)⟩

set_option maxRecDepth 100000 in
set_option maxHeartbeats 2000000 in
theorem blocksPieces.walk (W : World) (A : Option Addr) (n c : Nat) (l : List El) (k : ElsIn W A n c l) (sn sr sf st : Int) (kn : In64 sn) (kr : In64 sr) (kf : In64 sf) (kt : In64 st) (at_ : Int) (hal : -9223372036854775808 ≤ at_) (hah : at_ < 9223372036854775808) :
    Calls Try.prog 5 #[.slice A n c, .agg #[.int .i64 sn, .int .i64 sr, .int .i64 sf, .int .i64 st], .int .i64 at_] W fun e w' => e = .returned (.bool true) ∧ Below W.heap.size W w' := by
  have K := Lib.hid k
  have hcap := k.cap
  have HMAX := Lib.hid k.max
  have HL := Lib.hid k.len
  have HAL := Lib.hid hal
  have HAH := Lib.hid hah
  have HKF := Lib.hid kf
  have HKT := Lib.hid kt
  clear k kn kr kf kt hal hah
  by_cases h200 : 200 < n
  · go_enter Try.func5, Try.ntmps5
    go_wp2_with fail
    refine (alive_any _).mono ?_
    rintro e w4 ⟨rfl, hB4⟩
    go_wp2_with fail
    go_ret
    exact ⟨rfl, ((Below.refl _ W).alloc (Nat.le_refl _) _).trans (hB4.mono (by simp))⟩
  have BX0 : Hid (Box4 (W.alloc (.cells #[.int .i64 sn, .int .i64 sr, .int .i64 sf, .int .i64 st] 31)) W.heap.size 31 (.int .i64 sn) (.int .i64 sr) (.int .i64 sf) (.int .i64 st)) := Lib.hid (World.alloc_heap_new W _)
  have OE : ((W.alloc (.cells #[.int .i64 sn, .int .i64 sr, .int .i64 sf, .int .i64 st] 31)).alloc (.cells #[] 29)).ownsRow W.heap.size 29 4 (.slice (some ⟨W.heap.size + 1, 0, none⟩) 0 0) 0 [] := by
    have := own_empty (W.alloc (.cells #[.int .i64 sn, .int .i64 sr, .int .i64 sf, .int .i64 st] 31)) W.heap.size 29 4 (by simp)
    rwa [World.size_alloc] at this
  have HOE := Lib.hid OE
  have HBE : Hid (Below W.heap.size W ((W.alloc (.cells #[.int .i64 sn, .int .i64 sr, .int .i64 sf, .int .i64 st] 31)).alloc (.cells #[] 29))) := Lib.hid (((Below.refl _ W).alloc (Nat.le_refl _) _).alloc (by simp) _)
  clear OE
  go_enter Try.func5, Try.ntmps5
  go_wp2_with (at_builtin; refine wpList_app _ rfl (.tmp 20) (.tmp 21) 22 rfl W W.heap.size 29 (.agg #[.int .i64 0, .int .i64 0, .int .i64 0, .bool false]) 4 32 Try.underlying22 info29 rfl (by decide) _ 0 [] rfl HOE.out W.heap.size A n c (els l) rfl (K.out.rd.below HBE.out) (els_one _) (by unfold maxLen; omega) (by omega) HBE.out (Nat.le_refl _) ?_)
  intro A1 c1 w1 hown1 hg1 hB1
  have BX1 : Hid (Box4 w1 W.heap.size 31 (.int .i64 sn) (.int .i64 sr) (.int .i64 sf) (.int .i64 st)) := Lib.hid ((hg1.block _ (by simp; omega) (by simp [Value.ownBlock])).trans ((Below.heap_alloc _ _ _ BX0.out.lt).trans BX0.out))
  have HC1 := Lib.hid (own_cap hown1)
  have HB1 := Lib.hid hB1
  have R1 := Lib.hid (Rd.of_own hown1)
  clear hown1 hg1 hB1 BX0
  go_wp2_with fail
  refine (pieces_any A1 n c1 l (by omega) _ R1.out).mono ?_
  rintro e w2 ⟨⟨A2, c2, rfl, hown2⟩, hB2⟩
  have hpos : 1 ≤ (pieces l).length := by rw [pieces_count]; omega
  have hple := pieces_len l
  have hPN : (pieces l).length ≤ 201 := by have := HL.out; omega
  obtain ⟨N, hN⟩ : ∃ N, (pieces l).length = N := ⟨_, rfl⟩
  have HN := Lib.hid hN
  rw [hN] at hpos hPN hown2 ⊢
  obtain ⟨gp, rfl, -, -⟩ := own_addr hown2 (by omega)
  have X2 : Hid (PCtx W A1 n l N gp sn sr sf st w2) := Lib.hid ⟨(R1.out.below hB2).more hB2.size, Rd.of_own hown2, (hB2.block _ BX1.out.lt).trans BX1.out, HB1.out.trans (hB2.mono HB1.out.size)⟩
  clear hown2 hB2 hple hN R1 BX1 HB1 HBE HOE
  go_wp2_with fail
  refine (rpieces_any ((K.out.rd.below X2.out.below).more X2.out.below.size) (by omega)).mono ?_
  rintro e w3 ⟨⟨A3, c3, rfl, hown3⟩, hB3⟩
  rw [HN.out] at hown3 ⊢
  have X3 := Lib.hid (X2.out.next hB3)
  have R3 := Lib.hid (Rd.of_own hown3)
  clear hown3 hB3 X2
  go_wp2_with fail
  refine (same16_yes X3.out.rdP R3.out (Nat.le_refl _) (Nat.le_refl _) (by omega)).mono ?_
  rintro e w4 ⟨rfl, hB4⟩
  have X4 := Lib.hid (X3.out.next hB4)
  clear hB4 X3 R3
  go_wp2_with fail
  go_loopw [10] (fun ii wr => ∃ i : Nat, ii = .int .i64 i ∧ i ≤ N ∧ PCtx W A1 n l N gp sn sr sf st wr) (fun ii _ => N - (intOf ii).toNat)
  case atStart => exact ⟨0, rfl, Nat.zero_le _, X4.out⟩
  case round =>
    clear X4
    obtain ⟨i, rfl, hiN, hX⟩ := hrel
    have X := Lib.hid hX
    clear hX
    by_cases hlt : i < N
    · obtain ⟨s, hs⟩ : ∃ s, (pieces l)[i]? = some s := ⟨(pieces l)[i]'(by rw [HN.out]; exact hlt), List.getElem?_eq_getElem _⟩
      obtain ⟨f, t, hf, ht, hft, htn⟩ := pieces_in (List.mem_of_getElem? hs)
      obtain ⟨bp, op, hbo, hbp, p0, p1, p2, p3⟩ := X.out.rdP.sp hs
      injection hbo with hbo
      injection hbo with hb' hoff
      subst hb' hoff
      obtain ⟨pn, pr, pf, pu⟩ := s
      simp only at hf ht p0 p1 p2 p3
      subst hf ht
      simp only [Nat.zero_add] at p0 p1 p2 p3
      have TM : Hid (∀ w', Below wr.heap.size wr w' → Calls Try.prog 9 #[.slice A1 n c1, .agg #[.int .i64 pn, .int .i64 pr, .int .i64 f, .int .i64 t]] w' fun e w'' => e = .returned (.string (str8 (text l f t))) ∧ Below w'.heap.size w' w'') :=
        Lib.hid fun w' hb => text_any (c := c1) (X.out.next hb).rd (Nat.le_refl _) (by omega) HC1.out.1 HC1.out.2 pn pr f t (by have := HL.out; omega) (by have := HL.out; omega)
      have TL : Hid (∀ w', Below wr.heap.size wr w' → Calls Try.prog 13 #[.slice A n c, .agg #[.int .i64 pn, .int .i64 pr, .int .i64 f, .int .i64 t]] w' fun e w'' => e = .returned (.string (str8 (text l f t))) ∧ Below w'.heap.size w' w'') :=
        Lib.hid fun w' hb => rtext_any (K.out.rd.below (X.out.next hb).below) (X.out.next hb).below.size (by omega) pn pr f t (by have := HL.out; omega) (by have := HL.out; omega)
      obtain ⟨tx, htx⟩ : ∃ tx, text l f t = tx := ⟨_, rfl⟩
      rw [htx] at TL TM
      have n1 : (i : Int) < (N : Int) := by omega
      have n3 : (0 : Int) ≤ (i : Int) := by omega
      have hB := Below.refl wr.heap.size wr
      clear hs hft htn htx
      go_wp2_with fail
      go_region_held3 (fun w' => w'.cell? ⟨gp, i * 4, none⟩ = some (.int .i64 pn) ∧ w'.cell? ⟨gp, i * 4 + 1, none⟩ = some (.int .i64 pr) ∧ w'.cell? ⟨gp, i * 4 + 2, none⟩ = some (.int .i64 f) ∧ w'.cell? ⟨gp, i * 4 + 3, none⟩ = some (.int .i64 t))
        (first | go_keep | (obtain ⟨hc8, hf8⟩ := bcell hB; exact ⟨(hc8 _ _ hbp).trans p0, (hc8 _ _ hbp).trans p1, (hc8 _ _ hbp).trans p2, (hc8 _ _ hbp).trans p3⟩))
        (first
          | (go_at_call 9; refine (TM.out _ ?_).mono ?_; exact hB.drew; rintro e w7 ⟨rfl, hB7⟩; replace hB := hB.drew.trans (hB7.mono hB.size))
          | (go_at_call 13; refine (TL.out _ ?_).mono ?_; exact hB; rintro e w8 ⟨rfl, hB8⟩; replace hB := hB.trans (hB8.mono hB.size)))
      all_goals
        have X8 := Lib.hid (X.out.next hB)
        clear hB7 hB8 hB
        go_wp2_with fail
        go_roundw
        case rel => exact ⟨i + 1, by go_num, by omega, X8.out⟩
        case measure => simp [intOf]; omega
    · obtain rfl : i = N := by omega
      go_wp2_with fail
      refine (around_any X.out.rd (by omega) HC1.out.1 HC1.out.2 at_ HAL.out HAH.out).mono ?_
      rintro e w5 ⟨b1, b2, kk, rfl, hA1, hB5⟩
      have X5 := Lib.hid (X.out.next hB5)
      have HA1 := Lib.hid hA1
      clear hB5 hA1 X
      go_wp2_with fail
      have X6 := Lib.hid (X5.out.next ((Below.refl _ w5).alloc (Nat.le_refl _) (.cells #[.int .i64 b1, .int .i64 b2] 27)))
      have Z6 : Hid (Box2 (w5.alloc (.cells #[.int .i64 b1, .int .i64 b2] 27)) w5.heap.size 27 (.int .i64 b1) (.int .i64 b2)) := Lib.hid (World.alloc_heap_new w5 _)
      clear X5
      refine (raround_any (K.out.rd.below X6.out.below) X6.out.below.size (by omega) at_ HAL.out HAH.out).mono ?_
      rintro e w7 ⟨d1, d2, dd, rfl, hA2, hB7⟩
      obtain ⟨rfl, rfl, rfl⟩ := hA2.unique HA1.out
      have X7 := Lib.hid (X6.out.next hB7)
      have Z7 : Hid (Box2 w7 w5.heap.size 27 (.int .i64 d1) (.int .i64 d2)) := Lib.hid ((hB7.block _ Z6.out.lt).trans Z6.out)
      have hlt7 : w5.heap.size < w7.heap.size := Z7.out.lt
      clear hB7 hA2 HA1 X6 Z6
      go_wp2_with fail
      have X8 := Lib.hid (X7.out.next ((Below.refl _ w7).alloc (Nat.le_refl _) (.cells #[.int .i64 d1, .int .i64 d2] 27)))
      have Z8 : Hid (Box2 (w7.alloc (.cells #[.int .i64 d1, .int .i64 d2] 27)) w5.heap.size 27 (.int .i64 d1) (.int .i64 d2)) := Lib.hid ((Below.heap_alloc _ _ _ hlt7).trans Z7.out)
      have Y8 : Hid (Box2 (w7.alloc (.cells #[.int .i64 d1, .int .i64 d2] 27)) w7.heap.size 27 (.int .i64 d1) (.int .i64 d2)) := Lib.hid (World.alloc_heap_new w7 _)
      have hl8 : w7.heap.size < (w7.alloc (.cells #[.int .i64 d1, .int .i64 d2] 27)).heap.size := by simp
      clear X7 Z7
      generalize hww : (w7.alloc (.cells #[.int .i64 d1, .int .i64 d2] 27)) = w8 at *
      clear hww
      have hl8' : w5.heap.size < w8.heap.size := by omega
      refine (same12_yes X8.out.rd ((K.out.rd.below X8.out.below).more X8.out.below.size) (Nat.le_refl _) (Nat.le_refl _) (by omega)).mono ?_
      rintro e w9 ⟨rfl, hB9⟩
      have X9 := Lib.hid (X8.out.next hB9)
      have Z9 : Box2 w9 w5.heap.size 27 (.int .i64 d1) (.int .i64 d2) := (hB9.block _ hl8').trans Z8.out
      have Y9 : Box2 w9 w7.heap.size 27 (.int .i64 d1) (.int .i64 d2) := (hB9.block _ hl8).trans Y8.out
      clear hB9 X8 Z8 Y8 hl8 hl8' hlt7
      have z0 := Z9.c0
      have z1 := Z9.c1
      have y0 := Y9.c0
      have y1 := Y9.c1
      have v0 := X9.out.box.c0
      have v1 := X9.out.box.c1
      have v2 := X9.out.box.c2
      have v3 := X9.out.box.c3
      have lz := Z9.lt
      have ly := Y9.lt
      have lv := X9.out.box.lt
      clear Z9 Y9
      have TM : Hid (∀ w', Below w9.heap.size w9 w' → Calls Try.prog 9 #[.slice A1 n c1, .agg #[.int .i64 sn, .int .i64 sr, .int .i64 sf, .int .i64 st]] w' fun e w'' => e = .returned (.string (str8 (text l sf st))) ∧ Below w'.heap.size w' w'') :=
        Lib.hid fun w' hb => text_any (c := c1) (X9.out.next hb).rd (Nat.le_refl _) (by omega) HC1.out.1 HC1.out.2 sn sr sf st HKF.out HKT.out
      have TL : Hid (∀ w', Below w9.heap.size w9 w' → Calls Try.prog 13 #[.slice A n c, .agg #[.int .i64 sn, .int .i64 sr, .int .i64 sf, .int .i64 st]] w' fun e w'' => e = .returned (.string (str8 (text l sf st))) ∧ Below w'.heap.size w' w'') :=
        Lib.hid fun w' hb => rtext_any (K.out.rd.below (X9.out.next hb).below) (X9.out.next hb).below.size (by omega) sn sr sf st HKF.out HKT.out
      have LM : Hid (∀ w', Below w9.heap.size w9 w' → Calls Try.prog 17 #[.slice A1 n c1, .agg #[.int .i64 sn, .int .i64 sr]] w' fun e w'' => e = .returned (.bool (liveIn l sn sr)) ∧ Below w'.heap.size w' w'') :=
        Lib.hid fun w' hb => live_any (X9.out.next hb).rd (Nat.le_refl _) (by omega) sn sr
      have LL : Hid (∀ w', Below w9.heap.size w9 w' → Calls Try.prog 18 #[.slice A n c, .agg #[.int .i64 sn, .int .i64 sr]] w' fun e w'' => e = .returned (.bool (liveIn l sn sr)) ∧ Below w'.heap.size w' w'') :=
        Lib.hid fun w' hb => rlive_any (K.out.rd.below (X9.out.next hb).below) (X9.out.next hb).below.size (by omega) sn sr
      obtain ⟨tx, htx⟩ : ∃ tx, text l sf st = tx := ⟨_, rfl⟩
      obtain ⟨lv', hlv'⟩ : ∃ x, liveIn l sn sr = x := ⟨_, rfl⟩
      rw [htx] at TL TM
      rw [hlv'] at LL LM
      clear htx hlv'
      have hB := Below.refl w9.heap.size w9
      go_wp2_with fail
      go_region_held3 (fun w' => w'.cell? ⟨w5.heap.size, 0, none⟩ = some (.int .i64 d1) ∧ w'.cell? ⟨w5.heap.size, 1, none⟩ = some (.int .i64 d2) ∧ w'.cell? ⟨w7.heap.size, 0, none⟩ = some (.int .i64 d1) ∧ w'.cell? ⟨w7.heap.size, 1, none⟩ = some (.int .i64 d2) ∧
          w'.cell? ⟨W.heap.size, 0, none⟩ = some (.int .i64 sn) ∧ w'.cell? ⟨W.heap.size, 1, none⟩ = some (.int .i64 sr) ∧ w'.cell? ⟨W.heap.size, 2, none⟩ = some (.int .i64 sf) ∧ w'.cell? ⟨W.heap.size, 3, none⟩ = some (.int .i64 st))
        (first | go_keep | (obtain ⟨hc8, hf8⟩ := bcell hB; exact ⟨(hc8 _ _ lz).trans z0, (hc8 _ _ lz).trans z1, (hc8 _ _ ly).trans y0, (hc8 _ _ ly).trans y1, (hc8 _ _ lv).trans v0, (hc8 _ _ lv).trans v1, (hc8 _ _ lv).trans v2, (hc8 _ _ lv).trans v3⟩))
        (first
          | (go_at_call 7; refine (alive_any _).mono ?_; rintro e w10 ⟨rfl, hB10⟩; replace hB := hB.drew.trans (hB10.mono hB.size))
          | (go_at_call 9; refine (TM.out _ ?_).mono ?_; exact hB; rintro e w11 ⟨rfl, hB11⟩; replace hB := hB.trans (hB11.mono hB.size))
          | (go_at_call 13; refine (TL.out _ ?_).mono ?_; exact hB; rintro e w12 ⟨rfl, hB12⟩; replace hB := hB.trans (hB12.mono hB.size))
          | (go_at_call 17; refine (LM.out _ ?_).mono ?_; exact hB; rintro e w13 ⟨rfl, hB13⟩; replace hB := hB.trans (hB13.mono hB.size))
          | (go_at_call 18; refine (LL.out _ ?_).mono ?_; exact hB; rintro e w14 ⟨rfl, hB14⟩; replace hB := hB.trans (hB14.mono hB.size)))
      all_goals
        have hfin : Below W.heap.size W w14 := X9.out.below.trans (hB.mono X9.out.below.size)
        have HFI := Lib.hid hfin
        clear hfin hB hB10 hB11 hB12 hB13 hB14
        go_wp2_with fail
        go_ret
        exact ⟨rfl, HFI.out⟩
end Go.Proofs.Ytdajnkcjdmnnkaa
