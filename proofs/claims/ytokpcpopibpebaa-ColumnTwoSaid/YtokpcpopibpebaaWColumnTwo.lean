/-
  THE WALK OF ColumnTwo.
-/
import Derived.Test.YtokpcpopibpebaaOpenCol
import Derived.Test.YtokpcpopibpebaaWColumnBack
namespace Go.Proofs.Ytokpcpopibpebaa.columnTwo
open Go Go.RowKit
set_option linter.unusedVariables false
set_option linter.unusedSimpArgs false

set_option maxRecDepth 100000 in
set_option maxHeartbeats 4000000 in
theorem walk (W : World) (A : Option Addr) (n c : Nat) (l : List Int) (k : Ints W A n c l) (A' : Option Addr) (n' c' : Nat) (l' : List Int) (k' : Ints W A' n' c' l') (A'' : Option Addr) (m c'' : Nat) (t : List Bool) (k'' : Truths W A'' m c'' t) :
    Calls Try.prog 15 #[.slice A n c, .slice A' n' c', .slice A'' m c''] W fun e w' => e = .returned (.bool true) ∧ Below W.heap.size W w' := by
  have K := Lib.hid k
  have K' := Lib.hid k'
  have K'' := Lib.hid k''
  have hr := k.reach
  have hr' := k'.reach
  have hr'' := k''.reach
  clear k k' k''
  by_cases h0 : n ≤ 2000 ∧ n' ≤ 2000 ∧ m ≤ 2000
  · obtain ⟨h1, h2, h3⟩ := h0
    have RL : Hid (∀ w, Below W.heap.size W w → Rd w w.heap.size 1 A n (i64s l)) := Lib.hid fun w hw => (K.out.rd.below hw).more hw.size
    have RM : Hid (∀ w, Below W.heap.size W w → Rd w w.heap.size 1 A' n' (i64s l')) := Lib.hid fun w hw => (K'.out.rd.below hw).more hw.size
    have RT : Hid (∀ w, Below W.heap.size W w → Rd w w.heap.size 1 A'' m (bls t)) := Lib.hid fun w hw => (K''.out.rd.below hw).more hw.size
    have X0 := Lib.hid (Below.refl W.heap.size W)
    have TB1 : Hid (takenD (runsBytes (runs (delta l)) ++ (boolBytes t ++ runsBytes (runs l'))) n = some (l, (runsBytes (runs (delta l))).length)) := Lib.hid (by have := takenD_back (l := l) (by rw [K.out.len]; omega) K.out.inI (boolBytes t ++ runsBytes (runs l')); rwa [K.out.len] at this)
    have TB2 : Hid (takenB (boolBytes t ++ runsBytes (runs l')) m = some (t, (boolBytes t).length)) := Lib.hid (by have := takenB_back (l := t) (by rw [K''.out.len]; omega) (runsBytes (runs l')); rwa [K''.out.len] at this)
    have TB3 : Hid (takenI (runsBytes (runs l')) n' = some (l', (runsBytes (runs l')).length)) := Lib.hid (by have := takenI_back (l := l') (by rw [K'.out.len]; omega) K'.out.inI []; rwa [K'.out.len, List.append_nil] at this)
    have SH1 := Lib.hid (runs_short (l := delta l) (by rw [delta_len]; exact K.out.len) h1 (delta_InI K.out.inI))
    have SH2 := Lib.hid (bools_short K''.out.len h3)
    have SH3 := Lib.hid (runs_short K'.out.len h2 K'.out.inI)
    have BY1 := Lib.hid (runsBytes_byte (runs (delta l)))
    have BY2 : Hid (∀ x ∈ boolBytes t, x < 256) := Lib.hid (puts_byte _)
    have BY3 := Lib.hid (runsBytes_byte (runs l'))
    have LN := Lib.hid K.out.len
    have LN' := Lib.hid K'.out.len
    have LM := Lib.hid K''.out.len
    obtain ⟨y1, hy1⟩ : ∃ y, runsBytes (runs (delta l)) = y := ⟨_, rfl⟩
    obtain ⟨y2, hy2⟩ : ∃ y, boolBytes t = y := ⟨_, rfl⟩
    obtain ⟨y3, hy3⟩ : ∃ y, runsBytes (runs l') = y := ⟨_, rfl⟩
    have D1 := Lib.hid (deltas_any A n c l (by omega) K.out.cap K.out.max K.out.inI W (RL.out _ X0.out))
    have D2 := Lib.hid (fun w hw => bools_any A'' m c'' t (by omega) K''.out.cap K''.out.max w (RT.out w hw))
    have D3 := Lib.hid (fun w hw => runs_any A' n' c' l' (by omega) K'.out.cap K'.out.max K'.out.inI w (RM.out w hw))
    rw [hy1] at TB1 SH1 BY1 D1
    rw [hy2] at TB1 TB2 SH2 BY2 D2
    rw [hy3] at TB1 TB2 TB3 SH3 BY3 D3
    obtain ⟨n1, hn1⟩ : ∃ n1, y1.length = n1 := ⟨_, rfl⟩
    obtain ⟨n2, hn2⟩ : ∃ n2, y2.length = n2 := ⟨_, rfl⟩
    obtain ⟨n3, hn3⟩ : ∃ n3, y3.length = n3 := ⟨_, rfl⟩
    have sh1 : n1 ≤ 40000 := by rw [← hn1]; exact SH1.out
    have sh2 : n2 ≤ 40000 := by rw [← hn2]; exact SH2.out
    have sh3 : n3 ≤ 40000 := by rw [← hn3]; exact SH3.out
    rw [hn1] at TB1
    rw [hn2] at TB2
    rw [hn3] at TB3
    have N1 := Lib.hid hn1
    have N2 := Lib.hid hn2
    have N3 := Lib.hid hn3
    clear hy1 hy2 hy3 hn1 hn2 hn3 SH1 SH2 SH3
    go_enter Try.func15, Try.ntmps15
    go_wp2_with fail
    refine D1.out.mono ?_
    rintro e w1 ⟨B1, d1, rfl, own1, hB1⟩
    rw [N1.out] at own1 ⊢
    have O1 := Lib.hid own1
    have X1 := Lib.hid hB1
    clear own1 hB1 D1 X0
    go_wp2_with fail
    refine (D2.out _ X1.out).mono ?_
    rintro e w2 ⟨B2, d2, rfl, own2, hB2⟩
    rw [N2.out] at own2 ⊢
    have O1' := Lib.hid (own_heap O1.out fun g eg => hB2.block g (O1.out.lt g eg).2)
    have X2 := Lib.hid (X1.out.trans (hB2.mono X1.out.size))
    have Q2 := Lib.hid (Rd.of_own own2)
    clear own2 hB2 O1 X1 D2
    go_wp2_with (at_builtin; refine wpList_app _ rfl (.tmp 36) (.tmp 38) 24 rfl W W.heap.size 5 (.int .u8 0) 1 1 Try.underlying24 info5 rfl (by decide) _ _ _ rfl O1'.out w2.heap.size B2 n2 d2 (by8 y2) rfl Q2.out (by8_one' _) (by unfold maxLen; omega) (by omega) X2.out (Nat.le_refl _) ?_)
    intro B3 d3 w3 own3 hg3 hB3
    rw [← by8_append] at own3
    have O3 := Lib.hid own3
    have X3 := Lib.hid hB3
    clear own3 hg3 hB3 O1' X2 Q2
    go_wp2_with fail
    refine (D3.out _ X3.out).mono ?_
    rintro e w4 ⟨B4, d4, rfl, own4, hB4⟩
    rw [N3.out] at own4 ⊢
    have O3' := Lib.hid (own_heap O3.out fun g eg => hB4.block g (O3.out.lt g eg).2)
    have X4 := Lib.hid (X3.out.trans (hB4.mono X3.out.size))
    have Q4 := Lib.hid (Rd.of_own own4)
    clear own4 hB4 O3 X3 D3
    go_wp2_with (at_builtin; refine wpList_app _ rfl (.tmp 40) (.tmp 42) 24 rfl W W.heap.size 5 (.int .u8 0) 1 1 Try.underlying24 info5 rfl (by decide) _ _ _ rfl O3'.out w4.heap.size B4 n3 d4 (by8 y3) rfl Q4.out (by8_one' _) (by unfold maxLen; omega) (by omega) X4.out (Nat.le_refl _) ?_)
    intro B5 d5 w5 own5 hg5 hB5
    rw [← by8_append, List.append_assoc] at own5
    obtain ⟨N, hN⟩ : ∃ N, n1 + n2 + n3 = N := ⟨_, rfl⟩
    rw [hN] at own5 ⊢
    have cp := own_cap own5
    have hcp := cp.1
    have hcm : d5 ≤ 9223372036854775807 := cp.2
    have Q5 := Lib.hid (Rd.of_own own5)
    have X5 := Lib.hid hB5
    have i1 : n1 ≤ N := by omega
    have i2 : n1 + n2 ≤ N := by omega
    have i3 : N ≤ 120000 := by omega
    have HNN := Lib.hid hN
    have j1 : ((n3 : Int) == (N : Int) - (n1 : Int) - (n2 : Int)) = true := by simpa using (by omega : (n3 : Int) = (N : Int) - (n1 : Int) - (n2 : Int))
    clear own5 hg5 hB5 O3' X4 Q4 cp hN
    have hby : ∀ x ∈ y1 ++ (y2 ++ y3), x < 256 := fun x hx => by
      rcases List.mem_append.1 hx with h | h
      · exact BY1.out x h
      · rcases List.mem_append.1 h with h | h
        · exact BY2.out x h
        · exact BY3.out x h
    have tk1 := takedeltas_any B5 N d5 (y1 ++ (y2 ++ y3)) (n : Int) (by omega) (by omega) w5 Q5.out hby (by omega) hcp (by unfold maxLen; omega)
    rw [Int.toNat_natCast, badN_nat (by omega), TB1.out] at tk1
    have TK1 := Lib.hid tk1
    obtain ⟨C1, hC1⟩ : ∃ C1, (if d5 = n1 then B5 else B5.map (·.add n1)) = C1 := ⟨_, rfl⟩
    obtain ⟨C2, hC2⟩ : ∃ C2, (if d5 = n1 + n2 then B5 else B5.map (·.add (n1 + n2))) = C2 := ⟨_, rfl⟩
    have r1 : ∀ w, Below w5.heap.size w5 w → Rd w w.heap.size 1 C1 (N - n1) (by8 (y2 ++ y3)) := fun w hw => by
      have := ((Q5.out.below hw).drop1 (k := n1) (c := d5) i1 hcp).more hw.size
      rw [hC1, by8_append, List.drop_left' (by rw [by8_len, N1.out])] at this
      exact this
    have r2 : ∀ w, Below w5.heap.size w5 w → Rd w w.heap.size 1 C2 (N - (n1 + n2)) (by8 y3) := fun w hw => by
      have := ((Q5.out.below hw).drop1 (k := n1 + n2) (c := d5) i2 hcp).more hw.size
      rw [hC2, ← List.append_assoc, by8_append, List.drop_left' (by rw [by8_len, List.length_append, N1.out, N2.out])] at this
      exact this
    have TK2 : Hid (∀ w cc, Below w5.heap.size w5 w → N - n1 ≤ cc → cc ≤ maxLen → Calls Try.prog 38 #[.slice C1 (N - n1) cc, .int .i64 (m : Int)] w (Answer 4 Value.bool false (some (t, n2)) w)) := Lib.hid fun w cc hw h1 h2 => by
      have := takebools_any C1 (N - n1) cc (y2 ++ y3) (m : Int) (by omega) (by omega) w (r1 w hw) (fun x hx => hby x (List.mem_append_right _ hx)) (by omega) h1 h2
      rw [Int.toNat_natCast, badN_nat (by omega), TB2.out] at this
      exact this
    have TK3 : Hid (∀ w cc, Below w5.heap.size w5 w → N - (n1 + n2) ≤ cc → cc ≤ maxLen → Calls Try.prog 34 #[.slice C2 (N - (n1 + n2)) cc, .int .i64 (n' : Int)] w (Answer 3 (Value.int .i64) false (some (l', n3)) w)) := Lib.hid fun w cc hw h1 h2 => by
      have := takeruns_any C2 (N - (n1 + n2)) cc y3 (n' : Int) (by omega) (by omega) w (r2 w hw) BY3.out (by omega) h1 h2
      rw [Int.toNat_natCast, badN_nat (by omega), TB3.out] at this
      exact this
    have k1 : (0 : Int) ≤ (n1 : Int) := by omega
    have k2 : (n1 : Int) ≤ (d5 : Int) := by omega
    have k3 : (n1 : Int) ≤ (N : Int) := by omega
    have k4 : (0 : Int) ≤ (n1 : Int) + (n2 : Int) := by omega
    have k5 : (n1 : Int) + (n2 : Int) ≤ (d5 : Int) := by omega
    have k6 : (n1 : Int) + (n2 : Int) ≤ (N : Int) := by omega
    have k7 : ((n1 : Int) + (n2 : Int)).toNat = n1 + n2 := by omega
    have g1 : decide ((N : Int) < (n1 : Int)) = false := by simp; omega
    have g1' : decide (N < n1) = false := by simp; omega
    have g2 : decide ((N : Int) - (n1 : Int) < (n2 : Int)) = false := by simp; omega
    clear tk1 r1 r2 hby
    go_wp2_with fail
    refine TK1.out.mono ?_
    intro e w6 hA
    obtain ⟨E1, g1a, rfl, own6, hB6⟩ := hA.flat
    simp only [aL, aK, aE] at own6 ⊢
    rw [LN.out]
    have Z1 : Hid (Rd w6 w6.heap.size 1 E1 n (i64s l)) := Lib.hid (by have := Rd.of_own own6; rw [LN.out] at this; exact this)
    have V6 := Lib.hid hB6
    clear own6 hB6 hA TK1
    go_wp2_with fail
    refine (TK2.out _ _ V6.out (by omega) (by unfold maxLen; omega)).mono ?_
    intro e w7 hA
    obtain ⟨E2, g2a, rfl, own7, hB7⟩ := hA.flat
    simp only [aL, aK, aE] at own7 ⊢
    rw [LM.out]
    have Z2 : Hid (Rd w7 w7.heap.size 1 E2 m (bls t)) := Lib.hid (by have := Rd.of_own own7; rw [LM.out] at this; exact this)
    have Z1' := Lib.hid ((Z1.out.below hB7).more hB7.size)
    have V7 := Lib.hid (V6.out.trans (hB7.mono V6.out.size))
    clear own7 hB7 hA TK2 Z1 V6
    go_wp2_with fail
    refine (TK3.out _ _ V7.out (by omega) (by unfold maxLen; omega)).mono ?_
    intro e w8 hA
    obtain ⟨E3, g3a, rfl, own8, hB8⟩ := hA.flat
    simp only [aL, aK, aE] at own8 ⊢
    rw [LN'.out]
    have Z3 : Hid (Rd w8 w8.heap.size 1 E3 n' (i64s l')) := Lib.hid (by have := Rd.of_own own8; rw [LN'.out] at this; exact this)
    have Z1'' := Lib.hid ((Z1'.out.below hB8).more hB8.size)
    have Z2' := Lib.hid ((Z2.out.below hB8).more hB8.size)
    have V8 := Lib.hid (X5.out.trans ((V7.out.trans (hB8.mono V7.out.size)).mono X5.out.size))
    clear own8 hB8 hA TK3 Z1' Z2 V7 X5
    have s1 := same4_any (c := g1a) (c' := c) Z1''.out (RL.out _ V8.out) (by omega) (by omega)
    rw [decide_eq_true rfl] at s1
    have S1 := Lib.hid s1
    clear s1
    go_wp2_with fail
    refine S1.out.mono ?_
    rintro e v1 ⟨rfl, hV1⟩
    have Y1 := Lib.hid (V8.out.trans (hV1.mono V8.out.size))
    have s2 := sameB_any (c := g2a) (c' := c'') (Z2'.out.below hV1) (RT.out _ Y1.out) (by omega) (by omega)
    rw [decide_eq_true rfl] at s2
    have S2 := Lib.hid s2
    have Z3n := Lib.hid ((Z3.out.below hV1).more hV1.size)
    clear s2 hV1 S1 Z1'' Z2' Z3 V8
    go_wp2_with fail
    refine S2.out.mono ?_
    rintro e v2 ⟨rfl, hV2⟩
    have Y2 := Lib.hid (Y1.out.trans (hV2.mono Y1.out.size))
    have s3 := same4_any (c := g3a) (c' := c') (Z3n.out.below hV2) (RM.out _ Y2.out) (by omega) (by omega)
    rw [decide_eq_true rfl] at s3
    have S3 := Lib.hid s3
    clear s3 hV2 S2 Z3n
    go_wp2_with fail
    refine S3.out.mono ?_
    rintro e v3 ⟨rfl, hV3⟩
    have Y3 := Lib.hid (Y2.out.trans (hV3.mono Y2.out.size))
    clear hV3 S3
    go_wp2_with fail
    refine (alive4_any v3).mono ?_
    rintro e v4 ⟨rfl, hV4⟩
    have Y4 := Lib.hid (Y3.out.trans (hV4.mono Y3.out.size))
    clear hV4
    go_wp2_with fail
    go_ret
    exact ⟨rfl, Y4.out⟩
  · have hd : 2000 < n ∨ (n ≤ 2000 ∧ 2000 < n') ∨ (n ≤ 2000 ∧ n' ≤ 2000 ∧ 2000 < m) := by omega
    clear h0
    rcases hd with h1 | ⟨h1, h2⟩ | ⟨h1, h2, h3⟩
    all_goals
      go_enter Try.func15, Try.ntmps15
      go_wp2_with fail
      refine (alive4_any W).mono ?_
      rintro e w1 ⟨rfl, hB1⟩
      have HB1 := Lib.hid hB1
      clear hB1
      go_wp2_with fail
      go_ret
      exact ⟨rfl, HB1.out⟩
end Go.Proofs.Ytokpcpopibpebaa.columnTwo
