/-
  THE WALK OF ColumnBack.
-/
import Derived.Test.YtokpcpopibpebaaOpenCol
import Derived.Test.YtokpcpopibpebaaWColumnTakes
namespace Go.Proofs.Ytokpcpopibpebaa
open Go Go.RowKit
set_option linter.unusedVariables false
set_option linter.unusedSimpArgs false

theorem takenI_back {l : List Int} (hl : l.length < 18446744073709551616) (h : ∀ x ∈ l, InI x) (more : List Nat) : takenI (runsBytes (runs l) ++ more) l.length = some (l, (runsBytes (runs l)).length) := by
  unfold takenI; rw [parse_runs hl h more]; simp [expand_runs]
theorem takenD_back {l : List Int} (hl : l.length < 18446744073709551616) (h : ∀ x ∈ l, InI x) (more : List Nat) : takenD (runsBytes (runs (delta l)) ++ more) l.length = some (l, (runsBytes (runs (delta l))).length) := by
  have := takenI_back (l := delta l) (by rw [delta_len]; exact hl) (delta_InI h) more
  rw [delta_len] at this
  rw [takenD_eq, this]
  simp [undelta_delta h]
theorem takenB_back {l : List Bool} (hl : l.length < 18446744073709551616) (more : List Nat) : takenB (boolBytes l ++ more) l.length = some (l, (boolBytes l).length) := by
  unfold takenB; rw [parseB_bytes hl more]; simp [expandB_all, boolBytes]
theorem badN_nat {n : Nat} (h : n ≤ 65536) : badN (n : Int) = false := by unfold badN; simp; omega
theorem runs_short {l : List Int} {n : Nat} (hn : l.length = n) (hl : n ≤ 2000) (h : ∀ x ∈ l, InI x) : (runsBytes (runs l)).length ≤ 40000 := by
  have h1 := runsBytes_len (runs l) (fun p hp => (runs_all (by omega) h p hp).2)
  have h2 := runs_len l
  omega
theorem bools_short {l : List Bool} {n : Nat} (hn : l.length = n) (hl : n ≤ 2000) : (boolBytes l).length ≤ 40000 := by
  have h0 := cntsR_runs l
  have h1 := puts_len (cntsR (runs l)) (cntsR_lt fun p hp => (runsB_all (by omega) p hp).2)
  have h2 := cntsR_len (runs l)
  have h3 := runs_len l
  unfold boolBytes
  rw [← h0]
  omega
end Go.Proofs.Ytokpcpopibpebaa
namespace Go.Proofs.Ytokpcpopibpebaa.columnBack
open Go Go.RowKit
set_option linter.unusedVariables false
set_option linter.unusedSimpArgs false

set_option maxRecDepth 100000 in
set_option maxHeartbeats 4000000 in
theorem walk (W : World) (A : Option Addr) (n c : Nat) (l : List Int) (k : Ints W A n c l) (A' : Option Addr) (m c' : Nat) (t : List Bool) (k' : Truths W A' m c' t) (A'' : Option Addr) (q c'' : Nat) (b : List Nat) (k'' : Bytes W A'' q c'' b) :
    Calls Try.prog 13 #[.slice A n c, .slice A' m c', .slice A'' q c''] W fun e w' => e = .returned (.bool true) ∧ Below W.heap.size W w' := by
  have K := Lib.hid k
  have K' := Lib.hid k'
  have K'' := Lib.hid k''
  have hr := k.reach
  have hr' := k'.reach
  have hr'' := k''.reach
  clear k k' k''
  by_cases h0 : n ≤ 2000 ∧ m ≤ 2000 ∧ q ≤ 2000
  · obtain ⟨h1, h2, h3⟩ := h0
    have RL : Hid (∀ w, Below W.heap.size W w → Rd w w.heap.size 1 A n (i64s l)) := Lib.hid fun w hw => (K.out.rd.below hw).more hw.size
    have RT : Hid (∀ w, Below W.heap.size W w → Rd w w.heap.size 1 A' m (bls t)) := Lib.hid fun w hw => (K'.out.rd.below hw).more hw.size
    have RM : Hid (∀ w, Below W.heap.size W w → Rd w w.heap.size 1 A'' q (by8 b)) := Lib.hid fun w hw => (K''.out.rd.below hw).more hw.size
    have X0 := Lib.hid (Below.refl W.heap.size W)
    have TB1 : Hid (takenI (runsBytes (runs l) ++ b) n = some (l, (runsBytes (runs l)).length)) := Lib.hid (by have := takenI_back (l := l) (by rw [K.out.len]; omega) K.out.inI b; rwa [K.out.len] at this)
    have TB2 : Hid (takenD (runsBytes (runs (delta l)) ++ b) n = some (l, (runsBytes (runs (delta l))).length)) := Lib.hid (by have := takenD_back (l := l) (by rw [K.out.len]; omega) K.out.inI b; rwa [K.out.len] at this)
    have TB3 : Hid (takenB (boolBytes t ++ b) m = some (t, (boolBytes t).length)) := Lib.hid (by have := takenB_back (l := t) (by rw [K'.out.len]; omega) b; rwa [K'.out.len] at this)
    have SH1 := Lib.hid (runs_short K.out.len h1 K.out.inI)
    have SH2 := Lib.hid (runs_short (l := delta l) (by rw [delta_len]; exact K.out.len) h1 (delta_InI K.out.inI))
    have SH3 := Lib.hid (bools_short K'.out.len h2)
    have BY1 := Lib.hid (runsBytes_byte (runs l))
    have BY2 := Lib.hid (runsBytes_byte (runs (delta l)))
    have BY3 : Hid (∀ x ∈ boolBytes t, x < 256) := Lib.hid (puts_byte _)
    have LN := Lib.hid K.out.len
    have LM := Lib.hid K'.out.len
    go_enter Try.func13, Try.ntmps13
    go_wp2_with fail
    refine (runs_any A n c l (by omega) K.out.cap K.out.max K.out.inI W (RL.out _ X0.out)).mono ?_
    rintro e w1 ⟨B1, d1, rfl, own1, hB1⟩
    have X1 := Lib.hid (X0.out.trans (hB1.mono X0.out.size))
    have Q1 := Lib.hid (Rd.of_own own1)
    clear own1 hB1 X0
    go_wp2_with fail
    refine (deltas_any A n c l (by omega) K.out.cap K.out.max K.out.inI w1 (RL.out _ X1.out)).mono ?_
    rintro e w2 ⟨B2, d2, rfl, own2, hB2⟩
    have X2 := Lib.hid (X1.out.trans (hB2.mono X1.out.size))
    have Q2 := Lib.hid (Rd.of_own own2)
    have Q1n := Lib.hid ((Q1.out.below hB2).more hB2.size)
    clear Q1
    have Q1 := Q1n
    clear Q1n
    clear own2 hB2 X1
    go_wp2_with fail
    refine (bools_any A' m c' t (by omega) K'.out.cap K'.out.max w2 (RT.out _ X2.out)).mono ?_
    rintro e w3 ⟨B3, d3, rfl, own3, hB3⟩
    have X3 := Lib.hid (X2.out.trans (hB3.mono X2.out.size))
    have Q3 := Lib.hid (Rd.of_own own3)
    have Q1n := Lib.hid ((Q1.out.below hB3).more hB3.size)
    clear Q1
    have Q1 := Q1n
    clear Q1n
    have Q2n := Lib.hid ((Q2.out.below hB3).more hB3.size)
    clear Q2
    have Q2 := Q2n
    clear Q2n
    clear own3 hB3 X2
    obtain ⟨y1, hy1⟩ : ∃ y, runsBytes (runs l) = y := ⟨_, rfl⟩
    obtain ⟨y2, hy2⟩ : ∃ y, runsBytes (runs (delta l)) = y := ⟨_, rfl⟩
    obtain ⟨y3, hy3⟩ : ∃ y, boolBytes t = y := ⟨_, rfl⟩
    rw [hy1] at TB1 SH1 BY1 Q1
    rw [hy2] at TB2 SH2 BY2 Q2
    rw [hy3] at TB3 SH3 BY3 Q3
    simp only [hy1, hy2, hy3]
    have sh1 := SH1.out
    have sh2 := SH2.out
    have sh3 := SH3.out
    clear hy1 hy2 hy3
    have hs4 := X3.out.size
    go_wp2_with (at_builtin; refine wpList_app _ rfl (.tmp 43) (.tmp 44) 24 rfl w3 w3.heap.size 5 (.int .u8 0) 1 1 Try.underlying24 info5 rfl (by decide) _ 0 [] rfl (own_empty w3 _ 5 1 (Nat.le_refl _)) w3.heap.size B1 _ d1 (by8 y1) rfl (Q1.out.alloc (Nat.le_refl _) _) (by8_one' _) (by unfold maxLen; omega) (by omega) ((Below.refl _ _).alloc (Nat.le_refl _) _) (Nat.le_refl _) ?_)
    intro C4 f4 w4 own4 hg4 hB4
    clear hg4
    go_wp2_with (at_builtin; refine wpList_app _ rfl (.tmp 45) (.tmp 46) 24 rfl w3 w3.heap.size 5 (.int .u8 0) 1 1 Try.underlying24 info5 rfl (by decide) _ _ _ rfl own4 w4.heap.size A'' q c'' (by8 b) rfl (RM.out _ (X3.out.trans (hB4.mono hs4))) (by8_one' _) (by unfold maxLen; omega) (by omega) hB4 (Nat.le_refl _) ?_)
    intro C5 f5 w5 own5 hg5 hB5
    have cp5 := own_cap own5
    have hrd5 := Rd.of_own own5
    simp only [List.nil_append, ← by8_append] at hrd5
    have tk5 := takeruns_any C5 (y1.length + q) f5 (y1 ++ b) (n : Int) (by omega) (by omega) w5 hrd5 (fun x hx => by rcases List.mem_append.1 hx with h | h; exact BY1.out x h; exact K''.out.lt x h) (by omega) cp5.1 cp5.2
    rw [Int.toNat_natCast, badN_nat (by omega), TB1.out] at tk5
    have TK5 := Lib.hid tk5
    have X5 := Lib.hid (X3.out.trans (hB5.mono hs4))
    have HBB5 := Lib.hid hB5
    clear own4 hB4 own5 hg5 hrd5 tk5 cp5 hB5
    go_wp2_with fail
    refine TK5.out.mono ?_
    intro e w6 hA
    obtain ⟨E1, g1, rfl, own6, hB6⟩ := hA.flat
    simp only [aL, aK, aE] at own6 ⊢
    have X6 := Lib.hid (X5.out.trans (hB6.mono X5.out.size))
    have Z1 : Hid (Rd w6 w6.heap.size 1 E1 n (i64s l)) := Lib.hid (by have := Rd.of_own own6; rw [LN.out] at this; exact this)
    rw [LN.out]
    have hbc6 := HBB5.out.trans (hB6.mono HBB5.out.size)
    have Q2n := Lib.hid ((Q2.out.below hbc6).more hbc6.size)
    clear Q2
    have Q2 := Q2n
    clear Q2n
    have Q3n := Lib.hid ((Q3.out.below hbc6).more hbc6.size)
    clear Q3
    have Q3 := Q3n
    clear Q3n
    clear own6 hB6 hA X3 X5 HBB5 hbc6 TK5 hs4
    have hs7 := X6.out.size
    go_wp2_with (at_builtin; refine wpList_app _ rfl (.tmp 55) (.tmp 56) 24 rfl w6 w6.heap.size 5 (.int .u8 0) 1 1 Try.underlying24 info5 rfl (by decide) _ 0 [] rfl (own_empty w6 _ 5 1 (Nat.le_refl _)) w6.heap.size B2 _ d2 (by8 y2) rfl (Q2.out.alloc (Nat.le_refl _) _) (by8_one' _) (by unfold maxLen; omega) (by omega) ((Below.refl _ _).alloc (Nat.le_refl _) _) (Nat.le_refl _) ?_)
    intro C7 f7 w7 own7 hg7 hB7
    clear hg7
    go_wp2_with (at_builtin; refine wpList_app _ rfl (.tmp 57) (.tmp 58) 24 rfl w6 w6.heap.size 5 (.int .u8 0) 1 1 Try.underlying24 info5 rfl (by decide) _ _ _ rfl own7 w7.heap.size A'' q c'' (by8 b) rfl (RM.out _ (X6.out.trans (hB7.mono hs7))) (by8_one' _) (by unfold maxLen; omega) (by omega) hB7 (Nat.le_refl _) ?_)
    intro C8 f8 w8 own8 hg8 hB8
    have cp8 := own_cap own8
    have hrd8 := Rd.of_own own8
    simp only [List.nil_append, ← by8_append] at hrd8
    have tk8 := takedeltas_any C8 (y2.length + q) f8 (y2 ++ b) (n : Int) (by omega) (by omega) w8 hrd8 (fun x hx => by rcases List.mem_append.1 hx with h | h; exact BY2.out x h; exact K''.out.lt x h) (by omega) cp8.1 cp8.2
    rw [Int.toNat_natCast, badN_nat (by omega), TB2.out] at tk8
    have TK8 := Lib.hid tk8
    have X8 := Lib.hid (X6.out.trans (hB8.mono hs7))
    have HBB8 := Lib.hid hB8
    clear own7 hB7 own8 hg8 hrd8 tk8 cp8 hB8
    go_wp2_with fail
    refine TK8.out.mono ?_
    intro e w9 hA
    obtain ⟨E2, g2, rfl, own9, hB9⟩ := hA.flat
    simp only [aL, aK, aE] at own9 ⊢
    have X9 := Lib.hid (X8.out.trans (hB9.mono X8.out.size))
    have Z2 : Hid (Rd w9 w9.heap.size 1 E2 n (i64s l)) := Lib.hid (by have := Rd.of_own own9; rw [LN.out] at this; exact this)
    rw [LN.out]
    have hbc9 := HBB8.out.trans (hB9.mono HBB8.out.size)
    have Q3n := Lib.hid ((Q3.out.below hbc9).more hbc9.size)
    clear Q3
    have Q3 := Q3n
    clear Q3n
    have Z1n := Lib.hid ((Z1.out.below hbc9).more hbc9.size)
    clear Z1
    have Z1 := Z1n
    clear Z1n
    clear own9 hB9 hA X6 X8 HBB8 hbc9 TK8 hs7
    have hs10 := X9.out.size
    go_wp2_with (at_builtin; refine wpList_app _ rfl (.tmp 67) (.tmp 68) 24 rfl w9 w9.heap.size 5 (.int .u8 0) 1 1 Try.underlying24 info5 rfl (by decide) _ 0 [] rfl (own_empty w9 _ 5 1 (Nat.le_refl _)) w9.heap.size B3 _ d3 (by8 y3) rfl (Q3.out.alloc (Nat.le_refl _) _) (by8_one' _) (by unfold maxLen; omega) (by omega) ((Below.refl _ _).alloc (Nat.le_refl _) _) (Nat.le_refl _) ?_)
    intro C10 f10 w10 own10 hg10 hB10
    clear hg10
    go_wp2_with (at_builtin; refine wpList_app _ rfl (.tmp 69) (.tmp 70) 24 rfl w9 w9.heap.size 5 (.int .u8 0) 1 1 Try.underlying24 info5 rfl (by decide) _ _ _ rfl own10 w10.heap.size A'' q c'' (by8 b) rfl (RM.out _ (X9.out.trans (hB10.mono hs10))) (by8_one' _) (by unfold maxLen; omega) (by omega) hB10 (Nat.le_refl _) ?_)
    intro C11 f11 w11 own11 hg11 hB11
    have cp11 := own_cap own11
    have hrd11 := Rd.of_own own11
    simp only [List.nil_append, ← by8_append] at hrd11
    have tk11 := takebools_any C11 (y3.length + q) f11 (y3 ++ b) (m : Int) (by omega) (by omega) w11 hrd11 (fun x hx => by rcases List.mem_append.1 hx with h | h; exact BY3.out x h; exact K''.out.lt x h) (by omega) cp11.1 cp11.2
    rw [Int.toNat_natCast, badN_nat (by omega), TB3.out] at tk11
    have TK11 := Lib.hid tk11
    have X11 := Lib.hid (X9.out.trans (hB11.mono hs10))
    have HBB11 := Lib.hid hB11
    clear own10 hB10 own11 hg11 hrd11 tk11 cp11 hB11
    go_wp2_with fail
    refine TK11.out.mono ?_
    intro e w12 hA
    obtain ⟨E3, g3, rfl, own12, hB12⟩ := hA.flat
    simp only [aL, aK, aE] at own12 ⊢
    have X12 := Lib.hid (X11.out.trans (hB12.mono X11.out.size))
    have Z3 : Hid (Rd w12 w12.heap.size 1 E3 m (bls t)) := Lib.hid (by have := Rd.of_own own12; rw [LM.out] at this; exact this)
    rw [LM.out]
    have hbc12 := HBB11.out.trans (hB12.mono HBB11.out.size)
    have Z1n := Lib.hid ((Z1.out.below hbc12).more hbc12.size)
    clear Z1
    have Z1 := Z1n
    clear Z1n
    have Z2n := Lib.hid ((Z2.out.below hbc12).more hbc12.size)
    clear Z2
    have Z2 := Z2n
    clear Z2n
    clear own12 hB12 hA X9 X11 HBB11 hbc12 TK11 hs10
    have s1 := same4_any (c := g1) (c' := c) Z1.out (RL.out _ X12.out) (by omega) (by omega)
    rw [decide_eq_true rfl] at s1
    have S1 := Lib.hid s1
    clear s1
    go_wp2_with fail
    refine S1.out.mono ?_
    rintro e v1 ⟨rfl, hV1⟩
    have Y1 := Lib.hid (X12.out.trans (hV1.mono X12.out.size))
    have s2 := same4_any (c := g2) (c' := c) (Z2.out.below hV1) (RL.out _ Y1.out) (by omega) (by omega)
    rw [decide_eq_true rfl] at s2
    have S2 := Lib.hid s2
    have Z3n := Lib.hid ((Z3.out.below hV1).more hV1.size)
    clear s2 hV1 S1 Z1 Z2 Z3
    go_wp2_with fail
    refine S2.out.mono ?_
    rintro e v2 ⟨rfl, hV2⟩
    have Y2 := Lib.hid (Y1.out.trans (hV2.mono Y1.out.size))
    have s3 := sameB_any (c := g3) (c' := c') (Z3n.out.below hV2) (RT.out _ Y2.out) (by omega) (by omega)
    rw [decide_eq_true rfl] at s3
    have S3 := Lib.hid s3
    clear s3 hV2 S2 Z3n
    go_wp2_with fail
    refine S3.out.mono ?_
    rintro e v3 ⟨rfl, hV3⟩
    have Y3 := Lib.hid (Y2.out.trans (hV3.mono Y2.out.size))
    clear hV3 S3
    go_wp2_with fail
    refine (alive4_any v3).mono ?_
    rintro e v4 ⟨rfl, hV4⟩
    have Y4 := Lib.hid (Y3.out.trans (hV4.mono Y3.out.size))
    have e1 : ((y1.length : Int) == (y1.length : Int)) = true := by simp
    have e2 : ((y2.length : Int) == (y2.length : Int)) = true := by simp
    have e3 : ((y3.length : Int) == (y3.length : Int)) = true := by simp
    clear hV4
    go_wp2_with fail
    go_ret
    exact ⟨rfl, Y4.out⟩
  · have hd : 2000 < n ∨ (n ≤ 2000 ∧ 2000 < m) ∨ (n ≤ 2000 ∧ m ≤ 2000 ∧ 2000 < q) := by omega
    clear h0
    rcases hd with h1 | ⟨h1, h2⟩ | ⟨h1, h2, h3⟩
    all_goals
      go_enter Try.func13, Try.ntmps13
      go_wp2_with fail
      refine (alive4_any W).mono ?_
      rintro e w1 ⟨rfl, hB1⟩
      have HB1 := Lib.hid hB1
      clear hB1
      go_wp2_with fail
      go_ret
      exact ⟨rfl, HB1.out⟩
end Go.Proofs.Ytokpcpopibpebaa.columnBack
