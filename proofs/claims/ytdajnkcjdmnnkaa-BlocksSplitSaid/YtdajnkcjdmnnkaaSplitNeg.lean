/-
  THE WALK OF BlocksSplit: a place below nought.
-/
import Derived.Test.YtdajnkcjdmnnkaaSplitKit
namespace Go.Proofs.Ytdajnkcjdmnnkaa
open Go Go.RowKit
set_option linter.unusedVariables false

set_option maxRecDepth 100000 in
set_option maxHeartbeats 2000000 in
theorem blocksSplit.neg (W : World) (A : Option Addr) (n c : Nat) (l : List El) (k : ElsIn W A n c l) (at_ : Int) (hal : -9223372036854775808 ≤ at_) (hah : at_ < 9223372036854775808) (sn sr : Int) (kn : In64 sn) (kr : In64 sr) (h200 : ¬ 200 < n) (h0 : at_ < 0) :
    Calls Try.prog 4 #[.slice A n c, .int .i64 at_, .agg #[.int .i64 sn, .int .i64 sr]] W fun e w' => e = .returned (.bool true) ∧ Below W.heap.size W w' := by
  have K := Lib.hid k
  have hcap := k.cap
  have hmax := k.max
  have HL := Lib.hid k.len
  have HAL := Lib.hid hal
  have HAH := Lib.hid hah
  clear k kn kr hal hah
  unfold maxLen at hmax
  obtain ⟨q, hq, hql⟩ : ∃ q : Nat, -(at_ + 1) = (q : Int) ∧ q < 9223372036854775808 := by
    have h1 := HAL.out
    have h2 := HAH.out
    exact ⟨(-(at_ + 1)).toNat, by omega, by omega⟩
  obtain ⟨a, ha⟩ : ∃ a, a = q % (n + 1) := ⟨_, rfl⟩
  have hal : a ≤ n := by have := Nat.mod_lt q (show 0 < n + 1 by omega); omega
  have hrem : Int.tmod (q : Int) ((n : Int) + 1) = (a : Int) := by
    rw [ha]
    have e : ((n : Int) + 1) = ((n + 1 : Nat) : Int) := by omega
    rw [e]
    simp [Int.tmod]
  have i1 : (a : Int) ≤ (n : Int) := by omega
  have i2 : (a : Int) ≤ (c : Int) := by omega
  have j2 : ¬ ((n : Int) + 1) = 0 := by omega
  clear ha
  -- what is put together
  have RL0 := Lib.hid (K.out.rd.alloc (Nat.le_refl _) (.cells #[.int .i64 sn, .int .i64 sr] 27))
  have RLA : Hid (Rd (W.alloc (.cells #[.int .i64 sn, .int .i64 sr] 27)) W.heap.size 4 A a (els (l.take a))) := Lib.hid (by rw [← els_take]; exact RL0.out.take hal)
  have RLD0 := rd_sub K.out.rd hcap (f := a) (t := n) hal (Nat.le_refl _)
  obtain ⟨A', hA'⟩ : ∃ A', (if c = a then A else A.map (·.add (a * 4))) = A' := ⟨_, rfl⟩
  rw [hA'] at RLD0
  have hdt : (l.drop a).take (n - a) = l.drop a := List.take_of_length_le (by rw [List.length_drop, HL.out]; omega)
  rw [hdt] at RLD0
  have RLD := Lib.hid RLD0
  clear RLD0 hdt
  have hu : IntKind.i64.wrap (at_ + 1) = at_ + 1 := IntWalk.i64_in _ (by have := HAL.out; omega)
  have hu2 : wrap64 (q : Int) = (q : Int) := IntWalk.wrap64_in _ (by omega)
  clear hql
  go_enter Try.func4, Try.ntmps4
  go_wp2_with (at_builtin; refine wpList_app _ rfl (.tmp 31) (.tmp 34) 22 rfl W W.heap.size 29 (.agg #[.int .i64 0, .int .i64 0, .int .i64 0, .bool false]) 4 32 Try.underlying22 info29 rfl (by decide) _ 0 [] rfl (World.ownsRow_nil _ _ _ _) W.heap.size A a c (els (l.take a)) rfl RLA.out (els_one _) (by unfold maxLen; omega) (by omega) ((Below.refl _ W).alloc (Nat.le_refl _) _) (Nat.le_refl _) ?_)
  intro A1 c1 w1 hown1 hg1 hB1
  have HO1 := Lib.hid hown1
  have HB1 := Lib.hid hB1
  have BX1 : Hid (Box2 w1 W.heap.size 27 (.int .i64 sn) (.int .i64 sr)) := Lib.hid ((hg1.block _ (by simp) (by simp [Value.ownBlock])).trans (World.alloc_heap_new W _))
  clear hown1 hg1 hB1
  have b0 := BX1.out.c0
  have b1 := BX1.out.c1
  go_wp2_with (at_builtin; refine wpList_app _ rfl (.tmp 36) (.tmp 39) 22 rfl W W.heap.size 29 (.agg #[.int .i64 0, .int .i64 0, .int .i64 0, .bool false]) 4 32 Try.underlying22 info29 rfl (by decide) _ _ _ rfl (HO1.out.alloc _) (w1.heap.size + 1) (some ⟨w1.heap.size, 0, none⟩) 1 1 (els [⟨sn, sr, 0, false⟩]) rfl (rd_alloc w1 #[.int .i64 sn, .int .i64 sr, .int .i64 0, .bool false] 29 (0, 0) 1 4 rfl) (els_one _) (by unfold maxLen; omega) (by omega) (HB1.out.alloc HB1.out.size _) (Nat.le_refl _) ?_)
  intro A2 c2 w2 hown2 hg2 hB2
  have HO2 := Lib.hid hown2
  have HB2 := Lib.hid hB2
  have BX2 : Hid (Box2 w2 W.heap.size 27 (.int .i64 sn) (.int .i64 sr)) := Lib.hid ((hg2.block _ (by have := BX1.out.lt; simp; omega) (BX1.out.not_row (by decide) HO1.out)).trans ((Below.heap_alloc _ _ _ BX1.out.lt).trans BX1.out))
  clear hown2 hg2 hB2 b0 b1
  go_wp2_with (at_builtin; refine wpList_app _ rfl (.tmp 41) (.tmp 44) 22 rfl W W.heap.size 29 (.agg #[.int .i64 0, .int .i64 0, .int .i64 0, .bool false]) 4 32 Try.underlying22 info29 rfl (by decide) _ _ _ rfl HO2.out W.heap.size A' (n - a) (c - a) (els (l.drop a)) rfl (RLD.out.below HB2.out) (els_one _) (by unfold maxLen; omega) (by omega) HB2.out (Nat.le_refl _) ?_)
  intro A3 c3 w3 hown3 hg3 hB3
  have hn1 : a + 1 + (n - a) = n + 1 := by omega
  rw [hn1] at hown3 ⊢
  rw [← els_append, ← els_append] at hown3
  have hput : l.take a ++ ([⟨sn, sr, 0, false⟩] ++ l.drop a) = puts l a ⟨sn, sr, 0, false⟩ := rfl
  rw [hput] at hown3
  obtain ⟨gm, rfl, hgmge, hgmlt⟩ := own_addr hown3 (by omega)
  have HO3 := Lib.hid hown3
  have HB3 := Lib.hid hB3
  have BX3 : Hid (Box2 w3 W.heap.size 27 (.int .i64 sn) (.int .i64 sr)) := Lib.hid ((hg3.block _ BX2.out.lt (BX2.out.not_row (by decide) HO2.out)).trans BX2.out)
  have HCM := Lib.hid (own_cap hown3)
  clear hown3 hg3 hB3 hn1 hput hA'
  have RL3 := Lib.hid ((K.out.rd.below HB3.out).more HB3.out.size)
  go_wp2_with fail
  refine (pieces_any A n c l (by omega) _ RL3.out).mono ?_
  rintro e w4 ⟨⟨A4, c4, rfl, hown4⟩, hB4⟩
  obtain ⟨N, Kk, hI1, hI2, hNl⟩ := split_all (show a ≤ l.length by rw [HL.out]; exact hal) ⟨sn, sr, 0, false⟩ ⟨sn, sr, 0, true⟩ rfl rfl rfl
  have I1 := Lib.hid hI1
  have I2 := Lib.hid hI2
  have hkN := hI1.kN
  have hN201 : N ≤ 201 := by have := HL.out; omega
  rw [hI1.lenP] at hown4 ⊢
  obtain ⟨gp, rfl, hgple, -⟩ := own_addr hown4 (by omega)
  have RP4 := Lib.hid (Rd.of_own hown4)
  have HB4 := Lib.hid hB4
  have HO4 : Hid (w4.ownsRow W.heap.size 29 4 (.slice (some ⟨gm, 0, none⟩) (n + 1) c3) (n + 1) (els (puts l a ⟨sn, sr, 0, false⟩))) := Lib.hid (own_heap HO3.out fun g hg => hB4.block g (HO3.out.lt g hg).2)
  have BX4 : Hid (Box2 w4 W.heap.size 27 (.int .i64 sn) (.int .i64 sr)) := Lib.hid ((hB4.block _ BX3.out.lt).trans BX3.out)
  clear hI1 hI2 hown4 hB4
  go_wp2_with fail
  refine (pieces_any (some ⟨gm, 0, none⟩) (n + 1) c3 (puts l a ⟨sn, sr, 0, false⟩) (by omega) _ (Rd.of_own HO4.out)).mono ?_
  rintro e w5 ⟨⟨A5, c5, rfl, hown5⟩, hB5⟩
  rw [I1.out.lenQ] at hown5 ⊢
  obtain ⟨gq, rfl, -, -⟩ := own_addr hown5 (by omega)
  have X5 : Hid (Ctx W A n c l a sn sr N gp gq gm c3 w5) := Lib.hid ⟨(RP4.out.below hB5).more hB5.size, Rd.of_own hown5, own_heap HO4.out fun g hg => hB5.block g (HO4.out.lt g hg).2, (hB5.block _ BX4.out.lt).trans BX4.out,
    (HB3.out.trans (HB4.out.mono HB3.out.size)).trans (hB5.mono (Nat.le_trans HB3.out.size HB4.out.size))⟩
  clear hown5 hB5 RP4 HB4 HO4 BX4 HO3 HO2 HO1 BX3 BX2 BX1 HB1 HB2
  have gN : (((N + 1 : Nat) : Int) != (N : Int) + 1) = false := by simp
  go_wp2_with fail
  go_loop [11] (fun i => ∃ i' : Nat, i = .int .i64 i' ∧ i' ≤ Kk) (fun i => Kk + 1 - (intOf i).toNat)
  case atStart => exact ⟨0, rfl, Nat.zero_le _⟩
  case round =>
    obtain ⟨i, rfl, hiK⟩ := hrel
    by_cases hik : i < Kk
    · obtain ⟨pn, pr, pf, pu, hp, -, h1, h2, -⟩ := I1.out.low i hik
      obtain ⟨bp, op, hbo, hb, e0, e1, e2, e3⟩ := X5.out.rdP.sp hp
      injection hbo with hbo
      injection hbo with hb' hoff
      subst hb' hoff
      simp only [Nat.zero_add] at e0 e1 e2 e3
      have g1 : decide (pf ≤ a) = true := by simp; omega
      have g2 : decide (a ≤ pu) = false := by simp; omega
      have hiN : i < N := by omega
      clear hp
      go_wp2_with fail
      go_round
      case rel => exact ⟨i + 1, by go_num, by omega⟩
      case measure => simp [intOf]; omega
    · obtain rfl : i = Kk := by omega
      obtain ⟨pn, pr, pf, pt, hp, -, -, h1, h2, h3, -⟩ := I1.out.mid
      obtain ⟨bp, op, hbo, hb, e0, e1, e2, e3⟩ := X5.out.rdP.sp hp
      injection hbo with hbo
      injection hbo with hb' hoff
      subst hb' hoff
      simp only [Nat.zero_add] at e0 e1 e2 e3
      have g1 : decide (pf ≤ a) = true := by simp; omega
      have g2 : decide (a ≤ pt) = true := by simp; omega
      clear hp
      have hKN := hkN
      go_wp2_with fail
      clear e0 e1 e2 e3 g1 g2 hb hik hiK h1 h2 h3 RL3
      go_loopw [12] (fun ii wr => ∃ i' : Nat, ii = .int .i64 i' ∧ i' ≤ N ∧ Ctx W A n c l a sn sr N gp gq gm c3 wr) (fun ii _ => N - (intOf ii).toNat)
      case atStart => exact ⟨0, rfl, Nat.zero_le _, X5.out⟩
      case round =>
        clear X5
        obtain ⟨j, rfl, hjN, hX⟩ := hrel
        have X := Lib.hid hX
        clear hX
        by_cases hjlt : j < N
        · rcases Nat.lt_trichotomy j i with hji | hji | hji
          · obtain ⟨pn, pr, pf, pu, hp, hq, h1, h2, htx⟩ := I1.out.low j hji
            obtain ⟨bp, op, hbo, hbp, p0, p1, p2, p3⟩ := X.out.rdP.sp hp
            injection hbo with hbo
            injection hbo with hb' hoff
            subst hb' hoff
            obtain ⟨bq, oq, hbo, hbq, q0, q1, q2, q3⟩ := X.out.rdQ.sp hq
            injection hbo with hbo
            injection hbo with hb' hoff
            subst hb' hoff
            simp only [Nat.zero_add] at p0 p1 p2 p3 q0 q1 q2 q3
            have TM := Lib.hid (text_any (c := c3) (Rd.of_own X.out.own) (Nat.le_refl _) (by omega) HCM.out.1 HCM.out.2 pn pr (pf) (pu) (by have := HL.out; omega) (by have := HL.out; omega))
            have TL : Hid (∀ w', Below W.heap.size W w' → Calls Try.prog 9 #[.slice A n c, .agg #[.int .i64 pn, .int .i64 pr, .int .i64 pf, .int .i64 pu]] w' fun e w'' => e = .returned (.string (str8 (text l pf pu))) ∧ Below w'.heap.size w' w'') :=
              Lib.hid fun w' hb => text_any (K.out.rd.below hb) hb.size (by omega) hcap (by unfold maxLen; omega) pn pr pf pu (by have := HL.out; omega) (by have := HL.out; omega)
            have HTX := Lib.hid htx
            have gji : ((j : Int) == (i : Int)) = false := by simp; omega
            clear hp hq htx
            have n1 : (j : Int) < (N : Int) := by omega
            have n2 : ((j : Int) : Int) < ((N + 1 : Nat) : Int) := by omega
            have n5 : ((j : Int) : Int) < (N : Int) + 1 := by omega
            have n6 : j < N + 1 := by omega
            have n3 : (0 : Int) ≤ (j : Int) := by omega
            have n4 : (0 : Int) ≤ ((j : Int) : Int) := by omega
            go_wp2_with fail
            refine TM.out.mono ?_
            rw [HTX.out]
            obtain ⟨tx, htx⟩ : ∃ tx, text l pf pu = tx := ⟨_, rfl⟩
            rw [htx] at TL ⊢
            rintro e w6 ⟨rfl, hB6⟩
            have X6 := Lib.hid (X.out.next hB6)
            obtain ⟨hc6, hf6⟩ := bcell hB6
            have p0' := (hc6 gp (j * 4) hbp).trans p0
            have p1' := (hc6 gp (j * 4 + 1) hbp).trans p1
            have p2' := (hc6 gp (j * 4 + 2) hbp).trans p2
            have p3' := (hc6 gp (j * 4 + 3) hbp).trans p3
            have q0' := (hc6 gq (j * 4) hbq).trans q0
            have q1' := (hc6 gq (j * 4 + 1) hbq).trans q1
            have hgs : gp < w6.heap.size := Nat.lt_of_lt_of_le hbp hB6.size
            have hgt : gq < w6.heap.size := Nat.lt_of_lt_of_le hbq hB6.size
            clear hc6 hf6 hB6 p0 p1 p2 p3 q0 q1 q2 q3 htx TM HTX
            go_wp2_with fail
            go_region_held3 (fun w' => w'.cell? ⟨gp, j * 4, none⟩ = some (.int .i64 pn) ∧ w'.cell? ⟨gp, j * 4 + 1, none⟩ = some (.int .i64 pr) ∧ w'.cell? ⟨gp, j * 4 + 2, none⟩ = some (.int .i64 pf) ∧ w'.cell? ⟨gp, j * 4 + 3, none⟩ = some (.int .i64 pu) ∧ w'.cell? ⟨gq, j * 4, none⟩ = some (.int .i64 pn) ∧ w'.cell? ⟨gq, j * 4 + 1, none⟩ = some (.int .i64 pr))
              (first | go_keep | (obtain ⟨hc8, hf8⟩ := bcell hB8; exact ⟨(hc8 _ _ hgs).trans p0', (hc8 _ _ hgs).trans p1', (hc8 _ _ hgs).trans p2', (hc8 _ _ hgs).trans p3', (hc8 _ _ hgt).trans q0', (hc8 _ _ hgt).trans q1'⟩))
              (first | (go_at_call 9; refine (TL.out _ ?_).mono ?_; exact X6.out.below.drew; rintro e w8 ⟨rfl, hB8⟩))
            all_goals
              have X8 := Lib.hid (X6.out.next (w' := w8) (Below.trans (Below.refl _ w6).drew (hB8 : Below w6.heap.size w6.drew w8)))
              clear hB8
              go_wp2_with fail
              go_roundw
              case rel => exact ⟨j + 1, by go_num, by omega, X8.out⟩
              case measure => simp [intOf]; omega
          · subst hji
            obtain ⟨pn, pr, pf, pu, hp, hq, hq2, h1, h2, h3, htx⟩ := I1.out.mid
            obtain ⟨bp, op, hbo, hbp, p0, p1, p2, p3⟩ := X.out.rdP.sp hp
            injection hbo with hbo
            injection hbo with hb' hoff
            subst hb' hoff
            obtain ⟨bq, oq, hbo, hbq, q0, q1, q2, q3⟩ := X.out.rdQ.sp hq
            injection hbo with hbo
            injection hbo with hb' hoff
            subst hb' hoff
            obtain ⟨bs, os, hbo, hbs, s0, s1, s2, s3⟩ := X.out.rdQ.sp hq2
            injection hbo with hbo
            injection hbo with hb' hoff
            subst hb' hoff
            simp only [Nat.zero_add] at p0 p1 p2 p3 q0 q1 q2 q3 s0 s1 s2 s3
            have TM := Lib.hid (text_any (c := c3) (Rd.of_own X.out.own) (Nat.le_refl _) (by omega) HCM.out.1 HCM.out.2 pn pr pf a (by have := HL.out; omega) (by have := HL.out; omega))
            have TM2 : Hid (∀ w', Ctx W A n c l a sn sr N gp gq gm c3 w' → Calls Try.prog 9 #[.slice (some ⟨gm, 0, none⟩) (n + 1) c3, .agg #[.int .i64 sn, .int .i64 sr, .int .i64 ((a : Int) + 1), .int .i64 ((pu : Int) + 1)]] w' fun e w'' => e = .returned (.string (str8 (text (puts l a ⟨sn, sr, 0, false⟩) ((a : Int) + 1) ((pu : Int) + 1)))) ∧ Below w'.heap.size w' w'') :=
              Lib.hid fun w' hx => text_any (c := c3) (Rd.of_own hx.own) (Nat.le_refl _) (by omega) HCM.out.1 HCM.out.2 sn sr ((a : Int) + 1) ((pu : Int) + 1) (by have := HL.out; omega) (by have := HL.out; omega)
            have TL : Hid (∀ w', Below W.heap.size W w' → Calls Try.prog 9 #[.slice A n c, .agg #[.int .i64 pn, .int .i64 pr, .int .i64 pf, .int .i64 pu]] w' fun e w'' => e = .returned (.string (str8 (text l pf pu))) ∧ Below w'.heap.size w' w'') :=
              Lib.hid fun w' hb => text_any (K.out.rd.below hb) hb.size (by omega) hcap (by unfold maxLen; omega) pn pr pf pu (by have := HL.out; omega) (by have := HL.out; omega)
            have z1 := text_len (puts l a ⟨sn, sr, 0, false⟩) pf a
            have z2 := text_len (puts l a ⟨sn, sr, 0, false⟩) ((a : Int) + 1) ((pu : Int) + 1)
            rw [puts_len (by rw [HL.out]; exact hal), HL.out] at z1 z2
            rw [htx, str8_append] at TL
            obtain ⟨x1, hx1⟩ : ∃ x, text (puts l a ⟨sn, sr, 0, false⟩) pf a = x := ⟨_, rfl⟩
            obtain ⟨x2, hx2⟩ : ∃ x, text (puts l a ⟨sn, sr, 0, false⟩) ((a : Int) + 1) ((pu : Int) + 1) = x := ⟨_, rfl⟩
            rw [hx1, hx2] at TL
            rw [hx1] at TM z1
            rw [hx2] at TM2 z2
            have hsz : ¬ 9223372036854775807 < (str8 x1).size + (str8 x2).size := by rw [str8_size, str8_size]; omega
            clear hp hq hq2 htx hx1 hx2 z1 z2
            have n1 : (j : Int) < (N : Int) := by omega
            have n2 : ((j : Int)) < ((N + 1 : Nat) : Int) := by omega
            have n3 : (0 : Int) ≤ (j : Int) := by omega
            have n5 : (j : Int) < (N : Int) + 1 := by omega
            have n6 : j < N + 1 := by omega
            have n7 : (j : Int) + 1 < ((N + 1 : Nat) : Int) := by omega
            have n8 : (j : Int) + 1 < (N : Int) + 1 := by omega
            have n9 : (0 : Int) ≤ (j : Int) + 1 := by omega
            have n10 : IntKind.i64.wrap ((j : Int) + 1) = (j : Int) + 1 := IntWalk.i64_in _ (by omega)
            have n11 : ((j : Int) + 1).toNat = j + 1 := by omega
            have N10 := Lib.hid n10
            have N11 := Lib.hid n11
            clear n10 n11
            go_wp2_with fail
            refine TM.out.mono ?_
            rintro e w6 ⟨rfl, hB6⟩
            have X6 := Lib.hid (X.out.next hB6)
            obtain ⟨hc6, hf6⟩ := bcell hB6
            have p0' := (hc6 gp (j * 4) hbp).trans p0
            have p1' := (hc6 gp (j * 4 + 1) hbp).trans p1
            have p2' := (hc6 gp (j * 4 + 2) hbp).trans p2
            have p3' := (hc6 gp (j * 4 + 3) hbp).trans p3
            have q0' := (hc6 gq (j * 4) hbq).trans q0
            have q1' := (hc6 gq (j * 4 + 1) hbq).trans q1
            have s0' := (hc6 gq ((j + 1) * 4) hbq).trans s0
            have s1' := (hc6 gq ((j + 1) * 4 + 1) hbq).trans s1
            have s2' := (hc6 gq ((j + 1) * 4 + 2) hbq).trans s2
            have s3' := (hc6 gq ((j + 1) * 4 + 3) hbq).trans s3
            have hgs : gp < w6.heap.size := Nat.lt_of_lt_of_le hbp hB6.size
            have hgt : gq < w6.heap.size := Nat.lt_of_lt_of_le hbq hB6.size
            clear hc6 hf6 hB6 p0 p1 p2 p3 q0 q1 q2 q3 s0 s1 s2 s3 TM
            go_wp2_with fail
            refine (TM2.out _ X6.out).mono ?_
            rintro e w7 ⟨rfl, hB7⟩
            have X7 := Lib.hid (X6.out.next hB7)
            obtain ⟨hc7, hf7⟩ := bcell hB7
            have p0 := (hc7 gp (j * 4) hgs).trans p0'
            have p1 := (hc7 gp (j * 4 + 1) hgs).trans p1'
            have p2 := (hc7 gp (j * 4 + 2) hgs).trans p2'
            have p3 := (hc7 gp (j * 4 + 3) hgs).trans p3'
            have q0 := (hc7 gq (j * 4) hgt).trans q0'
            have q1 := (hc7 gq (j * 4 + 1) hgt).trans q1'
            have s0 := (hc7 gq ((j + 1) * 4) hgt).trans s0'
            have s1 := (hc7 gq ((j + 1) * 4 + 1) hgt).trans s1'
            have x0 := X7.out.box.c0
            have x1' := X7.out.box.c1
            have hgs7 : gp < w7.heap.size := Nat.lt_of_lt_of_le hgs hB7.size
            have hgt7 : gq < w7.heap.size := Nat.lt_of_lt_of_le hgt hB7.size
            have n10 := N10.out
            have n11 := N11.out
            clear hc7 hf7 hB7 p0' p1' p2' p3' q0' q1' s0' s1' s2' s3' TM2 hgs hgt
            go_wp2_with fail
            go_quiet (fail)
            have XD := Lib.hid (Ctx.draws X7.out nq)
            have P0 := Lib.hid p0
            have P1 := Lib.hid p1
            have P2 := Lib.hid p2
            have P3 := Lib.hid p3
            have Q0 := Lib.hid q0
            have Q1 := Lib.hid q1
            clear p0 p1 p2 p3 q0 q1 s0 s1 x0 x1' n10 n11
            have p0' : (w7.drewN nq).cell? ⟨gp, j * 4, none⟩ = some (.int .i64 pn) := P0.out
            have p1' : (w7.drewN nq).cell? ⟨gp, j * 4 + 1, none⟩ = some (.int .i64 pr) := P1.out
            have p2' : (w7.drewN nq).cell? ⟨gp, j * 4 + 2, none⟩ = some (.int .i64 pf) := P2.out
            have p3' : (w7.drewN nq).cell? ⟨gp, j * 4 + 3, none⟩ = some (.int .i64 pu) := P3.out
            have q0' : (w7.drewN nq).cell? ⟨gq, j * 4, none⟩ = some (.int .i64 pn) := Q0.out
            have q1' : (w7.drewN nq).cell? ⟨gq, j * 4 + 1, none⟩ = some (.int .i64 pr) := Q1.out
            have hgs : gp < (w7.drewN nq).heap.size := hgs7
            have hgt : gq < (w7.drewN nq).heap.size := hgt7
            clear P0 P1 P2 P3 Q0 Q1 hgs7 hgt7 X6 X7
            generalize w7.drewN nq = w9 at *
            go_wp2_with fail
            go_region_held3 (fun w' => w'.cell? ⟨gp, j * 4, none⟩ = some (.int .i64 pn) ∧ w'.cell? ⟨gp, j * 4 + 1, none⟩ = some (.int .i64 pr) ∧ w'.cell? ⟨gp, j * 4 + 2, none⟩ = some (.int .i64 pf) ∧ w'.cell? ⟨gp, j * 4 + 3, none⟩ = some (.int .i64 pu) ∧ w'.cell? ⟨gq, j * 4, none⟩ = some (.int .i64 pn) ∧ w'.cell? ⟨gq, j * 4 + 1, none⟩ = some (.int .i64 pr))
              (first | go_keep | (obtain ⟨hc8, hf8⟩ := bcell hB8; exact ⟨(hc8 _ _ hgs).trans p0', (hc8 _ _ hgs).trans p1', (hc8 _ _ hgs).trans p2', (hc8 _ _ hgs).trans p3', (hc8 _ _ hgt).trans q0', (hc8 _ _ hgt).trans q1'⟩))
              (first | (go_at_call 9; refine (TL.out _ ?_).mono ?_; exact XD.out.below.drew; rintro e w8 ⟨rfl, hB8⟩))
            all_goals
              have X8 := Lib.hid (XD.out.next (w' := w8) (Below.trans (Below.refl _ w9).drew (hB8 : Below w9.heap.size w9.drew w8)))
              clear hB8
              go_wp2_with fail
              go_roundw
              case rel => exact ⟨j + 1, by go_num, by omega, X8.out⟩
              case measure => simp [intOf]; omega
          · obtain ⟨pn, pr, pf, pu, hp, hq, h0, h1, h2, htx⟩ := I1.out.high j hji hjlt
            obtain ⟨bp, op, hbo, hbp, p0, p1, p2, p3⟩ := X.out.rdP.sp hp
            injection hbo with hbo
            injection hbo with hb' hoff
            subst hb' hoff
            obtain ⟨bq, oq, hbo, hbq, q0, q1, q2, q3⟩ := X.out.rdQ.sp hq
            injection hbo with hbo
            injection hbo with hb' hoff
            subst hb' hoff
            simp only [Nat.zero_add] at p0 p1 p2 p3 q0 q1 q2 q3
            have TM := Lib.hid (text_any (c := c3) (Rd.of_own X.out.own) (Nat.le_refl _) (by omega) HCM.out.1 HCM.out.2 pn pr ((pf : Int) + 1) ((pu : Int) + 1) (by have := HL.out; omega) (by have := HL.out; omega))
            have TL : Hid (∀ w', Below W.heap.size W w' → Calls Try.prog 9 #[.slice A n c, .agg #[.int .i64 pn, .int .i64 pr, .int .i64 pf, .int .i64 pu]] w' fun e w'' => e = .returned (.string (str8 (text l pf pu))) ∧ Below w'.heap.size w' w'') :=
              Lib.hid fun w' hb => text_any (K.out.rd.below hb) hb.size (by omega) hcap (by unfold maxLen; omega) pn pr pf pu (by have := HL.out; omega) (by have := HL.out; omega)
            have HTX := Lib.hid htx
            have gji : ((j : Int) == (i : Int)) = false := by simp; omega
            clear hp hq htx
            have n1 : (j : Int) < (N : Int) := by omega
            have n2 : ((j : Int) + 1 : Int) < ((N + 1 : Nat) : Int) := by omega
            have n5 : ((j : Int) + 1 : Int) < (N : Int) + 1 := by omega
            have n6 : j < N + 1 := by omega
            have n3 : (0 : Int) ≤ (j : Int) := by omega
            have n4 : (0 : Int) ≤ ((j : Int) + 1 : Int) := by omega
            go_wp2_with fail
            refine TM.out.mono ?_
            rw [HTX.out]
            obtain ⟨tx, htx⟩ : ∃ tx, text l pf pu = tx := ⟨_, rfl⟩
            rw [htx] at TL ⊢
            rintro e w6 ⟨rfl, hB6⟩
            have X6 := Lib.hid (X.out.next hB6)
            obtain ⟨hc6, hf6⟩ := bcell hB6
            have p0' := (hc6 gp (j * 4) hbp).trans p0
            have p1' := (hc6 gp (j * 4 + 1) hbp).trans p1
            have p2' := (hc6 gp (j * 4 + 2) hbp).trans p2
            have p3' := (hc6 gp (j * 4 + 3) hbp).trans p3
            have q0' := (hc6 gq ((j + 1) * 4) hbq).trans q0
            have q1' := (hc6 gq ((j + 1) * 4 + 1) hbq).trans q1
            have hgs : gp < w6.heap.size := Nat.lt_of_lt_of_le hbp hB6.size
            have hgt : gq < w6.heap.size := Nat.lt_of_lt_of_le hbq hB6.size
            clear hc6 hf6 hB6 p0 p1 p2 p3 q0 q1 q2 q3 htx TM HTX
            go_wp2_with fail
            go_region_held3 (fun w' => w'.cell? ⟨gp, j * 4, none⟩ = some (.int .i64 pn) ∧ w'.cell? ⟨gp, j * 4 + 1, none⟩ = some (.int .i64 pr) ∧ w'.cell? ⟨gp, j * 4 + 2, none⟩ = some (.int .i64 pf) ∧ w'.cell? ⟨gp, j * 4 + 3, none⟩ = some (.int .i64 pu) ∧ w'.cell? ⟨gq, (j + 1) * 4, none⟩ = some (.int .i64 pn) ∧ w'.cell? ⟨gq, (j + 1) * 4 + 1, none⟩ = some (.int .i64 pr))
              (first | go_keep | (obtain ⟨hc8, hf8⟩ := bcell hB8; exact ⟨(hc8 _ _ hgs).trans p0', (hc8 _ _ hgs).trans p1', (hc8 _ _ hgs).trans p2', (hc8 _ _ hgs).trans p3', (hc8 _ _ hgt).trans q0', (hc8 _ _ hgt).trans q1'⟩))
              (first | (go_at_call 9; refine (TL.out _ ?_).mono ?_; exact X6.out.below.drew; rintro e w8 ⟨rfl, hB8⟩))
            all_goals
              have X8 := Lib.hid (X6.out.next (w' := w8) (Below.trans (Below.refl _ w6).drew (hB8 : Below w6.heap.size w6.drew w8)))
              clear hB8
              go_wp2_with fail
              go_roundw
              case rel => exact ⟨j + 1, by go_num, by omega, X8.out⟩
              case measure => simp [intOf]; omega
        · obtain rfl : j = N := by omega
          have u0 := X.out.own.frozenAt (a * 4 + 3)
          have u1 : wr.cell? ⟨gm, a * 4 + 3, none⟩ = some (.bool false) := by
            rw [X.out.own.cellAt (a * 4 + 3) (by omega)]
            have := flat4 El.cells (fun _ => rfl) (puts l a ⟨sn, sr, 0, false⟩) a ⟨sn, sr, 0, false⟩ 3 (puts_mid (by rw [HL.out]; exact hal)) (by omega)
            exact this
          have hst := (X.out.own.stored (a * 4 + 3) (.bool true)).1
          rw [els_set (show a ≤ l.length by rw [HL.out]; exact hal)] at hst
          have HST := Lib.hid hst
          have hgmp : gm < gp := Nat.lt_of_lt_of_le hgmlt hgple
          have RPS : Hid (Rd (wr.setCell ⟨gm, a * 4 + 3, none⟩ (.bool true)) (wr.setCell ⟨gm, a * 4 + 3, none⟩ (.bool true)).heap.size 4 (some ⟨gp, 0, none⟩) j (sps (pieces l))) := by
            refine Lib.hid ⟨X.out.rdP.1, X.out.rdP.2.imp id ?_⟩
            rintro ⟨b, off, e, hb, hc⟩
            injection e with e
            injection e with e1 e2
            subst e1 e2
            refine ⟨gp, 0, rfl, by simpa [World.setCell] using hb, fun jj u hu => ?_⟩
            have hh : (wr.setCell ⟨gm, a * 4 + 3, none⟩ (.bool true)).heap[gp]? = wr.heap[gp]? := Below.heap_setCell _ _ _ _ (by simp; omega)
            rw [show (wr.setCell ⟨gm, a * 4 + 3, none⟩ (.bool true)).cell? ⟨gp, 0 + jj, none⟩ = wr.cell? ⟨gp, 0 + jj, none⟩ from World.cell?_of_block (w := wr) hh]
            exact hc jj u hu
          have BWS := Lib.hid (X.out.below.setCell (p := ⟨gm, a * 4 + 3, none⟩) hgmge (.bool true))
          have ia1 : (a : Int) < ((n + 1 : Nat) : Int) := by omega
          have ia2 : (a : Int) < (n : Int) + 1 := by omega
          have ia3 : a < n + 1 := by omega
          clear hst X
          go_wp2_with fail
          refine (pieces_any (some ⟨gm, 0, none⟩) (n + 1) c3 (puts l a ⟨sn, sr, 0, true⟩) (by omega) _ (Rd.of_own HST.out)).mono ?_
          rintro e w7 ⟨⟨A7, c7, rfl, hown7⟩, hB7⟩
          rw [I2.out.lenR] at hown7 ⊢
          obtain ⟨gr, rfl, -, -⟩ := own_addr hown7 (by omega)
          have Z7 : Hid (Ctx3 W n l a sn sr j gp gr gm w7) := Lib.hid ⟨(RPS.out.below hB7).more hB7.size, Rd.of_own hown7, ((Rd.of_own HST.out).below hB7).more hB7.size, BWS.out.trans (hB7.mono BWS.out.size)⟩
          clear hown7 hB7 RPS BWS HST u0 u1 ia1 ia2 ia3
          go_wp2_with fail
          go_loopw [16] (fun ii wr => ∃ i' : Nat, ii = .int .i64 i' ∧ i' ≤ j ∧ Ctx3 W n l a sn sr j gp gr gm wr) (fun ii _ => j - (intOf ii).toNat)
          case atStart => exact ⟨0, rfl, Nat.zero_le _, Z7.out⟩
          case round =>
            clear Z7
            obtain ⟨m, rfl, hmj, hZ⟩ := hrel
            have Z := Lib.hid hZ
            clear hZ
            by_cases hml : m < j
            · obtain ⟨pn, pr, pf, pu, rf, ru, hp, hq, h1, h2, h3, h4, htx⟩ := I2.out.each m hml
              obtain ⟨bp, op, hbo, hbp, p0, p1, p2, p3⟩ := Z.out.rdP.sp hp
              injection hbo with hbo
              injection hbo with hb' hoff
              subst hb' hoff
              obtain ⟨bq, oq, hbo, hbq, q0, q1, q2, q3⟩ := Z.out.rdR.sp hq
              injection hbo with hbo
              injection hbo with hb' hoff
              subst hb' hoff
              simp only [Nat.zero_add] at p0 p1 p2 p3 q0 q1 q2 q3
              have TM := Lib.hid (text_any (c := c3) (Z.out.rdM.keep (w' := wr.drew) fun _ _ => rfl) (Nat.le_refl _) (by omega) HCM.out.1 HCM.out.2 pn pr rf ru (by have := HL.out; omega) (by have := HL.out; omega))
              have TL : Hid (∀ w', Below W.heap.size W w' → Calls Try.prog 9 #[.slice A n c, .agg #[.int .i64 pn, .int .i64 pr, .int .i64 pf, .int .i64 pu]] w' fun e w'' => e = .returned (.string (str8 (text l pf pu))) ∧ Below w'.heap.size w' w'') :=
                Lib.hid fun w' hb => text_any (K.out.rd.below hb) hb.size (by omega) hcap (by unfold maxLen; omega) pn pr pf pu (by have := HL.out; omega) (by have := HL.out; omega)
              rw [htx] at TM
              obtain ⟨tx, htx2⟩ : ∃ tx, text l pf pu = tx := ⟨_, rfl⟩
              rw [htx2] at TL TM
              clear hp hq htx htx2
              have n1 : (m : Int) < (j : Int) := by omega
              have n3 : (0 : Int) ≤ (m : Int) := by omega
              go_wp2_with fail
              go_region_held3 (fun w' => w'.cell? ⟨gp, m * 4, none⟩ = some (.int .i64 pn) ∧ w'.cell? ⟨gp, m * 4 + 1, none⟩ = some (.int .i64 pr) ∧ w'.cell? ⟨gp, m * 4 + 2, none⟩ = some (.int .i64 pf) ∧ w'.cell? ⟨gp, m * 4 + 3, none⟩ = some (.int .i64 pu) ∧ w'.cell? ⟨gr, m * 4, none⟩ = some (.int .i64 pn) ∧ w'.cell? ⟨gr, m * 4 + 1, none⟩ = some (.int .i64 pr) ∧ w'.cell? ⟨gr, m * 4 + 2, none⟩ = some (.int .i64 rf) ∧ w'.cell? ⟨gr, m * 4 + 3, none⟩ = some (.int .i64 ru))
                (first | go_keep | (obtain ⟨hc8, hf8⟩ := bcell hB; exact ⟨(hc8 _ _ hbp).trans p0, (hc8 _ _ hbp).trans p1, (hc8 _ _ hbp).trans p2, (hc8 _ _ hbp).trans p3, (hc8 _ _ hbq).trans q0, (hc8 _ _ hbq).trans q1, (hc8 _ _ hbq).trans q2, (hc8 _ _ hbq).trans q3⟩))
                (first
                  | (go_at_call_of 9 gm; refine TM.out.mono ?_; rintro e w7 ⟨rfl, hB7⟩; have hB : Below wr.heap.size wr w7 := Below.trans (Below.refl _ wr).drew hB7)
                  | (go_at_call_of 9 A; refine (TL.out _ ?_).mono ?_; exact Z.out.below.trans (hB.mono Z.out.below.size); rintro e w8 ⟨rfl, hB8⟩; replace hB := hB.trans (hB8.mono hB.size)))
              all_goals
                have Z8 := Lib.hid (Z.out.next hB)
                clear hB7 hB8 hB
                go_wp2_with fail
                go_roundw
                case rel => exact ⟨m + 1, by go_num, by omega, Z8.out⟩
                case measure => simp [intOf]; omega
            · obtain rfl : m = j := by omega
              have BZ := Lib.hid Z.out.below
              clear Z
              go_wp2_with fail
              refine (alive_any _).mono ?_
              rintro e w9 ⟨rfl, hB9⟩
              go_wp2_with fail
              go_ret
              exact ⟨rfl, BZ.out.trans (hB9.mono BZ.out.size)⟩
end Go.Proofs.Ytdajnkcjdmnnkaa
