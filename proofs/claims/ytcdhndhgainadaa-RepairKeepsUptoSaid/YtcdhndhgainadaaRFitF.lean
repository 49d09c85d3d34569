/-
  The contract of the document's Fit, from wrapped's.
-/
import Derived.Test.YtcdhndhgainadaaNodeAt
import Derived.LoopTactic
namespace Go.Proofs.Ytcdhndhgainadaa
open Go Go.RowKit
set_option linter.unusedVariables false
set_option linter.unusedSimpArgs false

set_option maxRecDepth 100000 in
set_option maxHeartbeats 4000000 in
theorem fit43_non (p : ByteArray) (hp : Par (kd p)) (hnt : kd p ≠ .table) (hW : WrapC 54 p fun s => .int .i64 (s.code (kd p))) : FitC 43 p := by
  intro w S A n c ts hG hn hS hr
  have tb : (p.toList == [116, 97, 98, 108, 101]) = false := by rw [is_table]; simpa using hnt
  have HW := Lib.hid hW
  have HG := Lib.hid hG
  have HS := Lib.hid hS
  have HR := Lib.hid hr
  have HTL := Lib.hid hr.length
  have HSO : Hid (∀ t : RT, Good t → sortN (kd p) (kd t.kind) = (byP p t).code (kd p)) := Lib.hid fun t ht => sort_non hp hnt ht.1 ht.2
  clear hW hG hS hr hp hnt
  go_enter Try.func43, Try.ntmps43
  go_wp2_with fail
  go_loopw [5, 6] (fun s5 s6 wr => ∃ (i : Nat) (zs : List (Z RT 6)) (B : Option Addr) (d : Nat), s6 = .int .i64 i ∧ i ≤ n ∧ s5 = .slice B zs.length d ∧ Hid (Row wr w.heap.size S (.slice B zs.length d) zs) ∧ Hid (vz zs ++ fitT (kd p) (ts.drop i) = fitT (kd p) ts) ∧ Hid (Below w.heap.size w wr) ∧ zs.length ≤ i) (fun s5 s6 _ => n - (intOf s6).toNat)
  case atStart => exact ⟨0, [], none, 0, rfl, Nat.zero_le _, rfl, Lib.hid (Row.nil _ _ _), Lib.hid (by simp [vz]), Lib.hid (Below.refl _ _), Nat.le_refl _⟩
  case round =>
    obtain ⟨i, zs, B, d, rfl, hin, rfl, HROW, HEQ, HB, hzi⟩ := hrel
    by_cases hlt : i < n
    · obtain ⟨b, off, x, u0, u1, u2, u3, u3n, u3c, u4, u4n, u4c, u5, u5n, u5c, rfl, hx, hb, hSb, hxk, hxn, c0, c1, c2, c3, c4, c5⟩ := (HR.out.stay (.below HB.out fun _ _ h => h) : RdF wr S A n c ts).nodeAt hlt
      have ik : (i : Int) < (n : Int) := by omega
      have ik0 : (0 : Int) ≤ (i : Int) := by omega
      have hgx := HG.out x (List.mem_of_getElem? hx)
      have hso := HSO.out x hgx
      rw [hxk] at hso
      have HX := Lib.hid hx
      have HXN := Lib.hid hxn
      have HC : Hid (Calls Try.prog 53 #[.string p, .string u2] wr fun e w' => e = .returned (.int .i64 (sortN (kd p) (kd u2))) ∧ wr = w') := Lib.hid ((sort53_any p u2 wr).mono fun _ _ h => ⟨h.1, h.2.symm⟩)
      have hns : wr.heap.size ≥ w.heap.size := HB.out.size
      have HXK := Lib.hid hxk
      clear hx hgx hxn hSb hb hxk
      generalize sortN (kd p) (kd u2) = N at *
      have HN : Hid ((byP p x).code (kd p) = N) := Lib.hid hso.symm
      clear hso
      by_cases hst : byP p x = .stay
      · have h0 : N = 0 := by rw [← HN.out]; exact code_stay.2 hst
        subst h0
        have HST := Lib.hid hst
        clear hst
        obtain ⟨zs', hz', hZ'⟩ := (RdF.one (w := wr) (S := S) (S' := Sn wr.heap.size S) #[.int .i64 u0, .int .i64 u1, .string u2, .slice u3 u3n u3c, .slice u4 u4n u4c, .slice u5 u5n u5c] x HXN.out (fun _ _ h => .inl h) wr.heap.size rfl (.inr (Nat.le_refl _))).z
        have hzl : zs'.length = 1 := hZ'.len
        have hsub : ∀ b, b < (wr.alloc (.cells #[.int .i64 u0, .int .i64 u1, .string u2, .slice u3 u3n u3c, .slice u4 u4n u4c, .slice u5 u5n u5c] 31)).heap.size → Sn wr.heap.size S b → Sx w.heap.size S (.slice B zs.length d) b := fun b _ h =>
          sx_of (fun g hg => (HROW.out.low g hg).2) HS.out (fun g hg => (HROW.out.low g hg).1) hns b h
        have hrow : Row (wr.alloc (.cells #[.int .i64 u0, .int .i64 u1, .string u2, .slice u3 u3n u3c, .slice u4 u4n u4c, .slice u5 u5n u5c] 31)) w.heap.size S (.slice B zs.length d) zs := HROW.out.below (blAl _)
        have HRW := Lib.hid hrow
        have HZ1 := Lib.hid hZ'
        have HSB := Lib.hid hsub
        have HVZ := Lib.hid hz'
        have hnw : w.heap.size ≤ (wr.alloc (.cells #[.int .i64 u0, .int .i64 u1, .string u2, .slice u3 u3n u3c, .slice u4 u4n u4c, .slice u5 u5n u5c] 31)).heap.size := by rw [World.size_alloc]; omega
        have HNW := Lib.hid hnw
        clear hrow hZ' hsub hz' hnw
        go_wp2_with (first | (at_builtin; refine wpList_rows rfl (.tmp 29) (.tmp 34) rfl rfl HRW.out rfl HZ1.out HSB.out ?len HNW.out ?_) | (go_at_call 53; refine HC.out.mono ?_; rintro e w' ⟨rfl, rfl⟩))
        case len => rw [hzl]; omega
        intro A' c' w1 hrow1 hg1 hat1
        have HR1 := Lib.hid hrow1
        have hB1 : Below w.heap.size w w1 := (HB.out.alloc HB.out.size _).trans (HRW.out.grown_below hg1 HNW.out)
        have HB1 := Lib.hid hB1
        clear hrow1 hg1 hat1 hB1
        go_wp2_with fail
        go_roundw
        case rel => exact ⟨i + 1, zs ++ zs', A', c', by go_num, by omega, by rw [List.length_append, hzl], Lib.hid (by rw [List.length_append, hzl]; exact HR1.out), Lib.hid (by
          rw [← HEQ.out, drop_at HX.out, fitT_stay HST.out, vz_append, HVZ.out]; simp), HB1, by rw [List.length_append, hzl]; omega⟩
        case measure => simp [intOf]; omega
      · have h0 : (N == 0) = false := by
          simp only [beq_eq_false_iff_ne, ne_eq]
          rw [← HN.out]
          exact fun e => hst (code_stay.1 e)
        have HST := Lib.hid hst
        clear hst
        go_wp2_with (first | (go_at_call 53; refine HC.out.mono ?_; rintro e w' ⟨rfl, rfl⟩))
        have HR0 : Hid (RdF wr S (some ⟨b, off, none⟩) n c ts) := Lib.hid (HR.out.stay (.below HB.out fun _ _ h => h))
        have HSW : Hid (∀ b, S b → b < wr.heap.size) := Lib.hid fun b h => Nat.lt_of_lt_of_le (HS.out b h) hns
        clear c0 c1 c2 c3 c4 c5 HC
        generalize hwo : wr = wo at *
        go_loopw [6, 8] (fun s6 s8 wr => ∃ (k : Nat) (zr : List (Z RT 6)) (D : Option Addr) (e : Nat), s6 = .int .i64 (i + k : Nat) ∧ i + k ≤ n ∧ s8 = .slice D zr.length e ∧ Hid (Row wr wo.heap.size S (.slice D zr.length e) zr) ∧ Hid (vz zr = (ts.drop i).take k) ∧ Hid (zr.length = k) ∧ Hid (Below wo.heap.size wo wr) ∧ Hid (∀ j t, j < k → (ts.drop i)[j]? = some t → byP p t = byP p x)) (fun s6 _ _ => n - (intOf s6).toNat)
        case atStart => exact ⟨0, [], none, 0, rfl, hin, rfl, Lib.hid (Row.nil _ _ _), Lib.hid (by simp [vz]), Lib.hid rfl, Lib.hid (Below.refl _ _), Lib.hid fun j t hj => absurd hj (Nat.not_lt_zero _)⟩
        case round =>
          obtain ⟨k, zr, D, e, rfl, hikn, rfl, HRR, HRV, hzk, HBR, HALL⟩ := hrel
          have hno : w.heap.size ≤ wo.heap.size := hns
          by_cases hl2 : i + k < n
          · obtain ⟨b', off', y, v0, v1, v2, v3, v3n, v3c, v4, v4n, v4c, v5, v5n, v5c, hbo, hy, hb2, -, hyk, hyn, c0, c1, c2, c3, c4, c5⟩ := (HR0.out.stay (.below HBR.out fun _ _ h => h) : RdF wr S (some ⟨b, off, none⟩) n c ts).nodeAt hl2
            obtain ⟨rfl, rfl⟩ : b = b' ∧ off = off' := by injection hbo with e; injection e with e1 e2; exact ⟨e1, e2⟩
            have ik2 : ((i + k : Nat) : Int) < (n : Int) := by omega
            have ik3 : (0 : Int) ≤ ((i + k : Nat) : Int) := by omega
            have hgy := HG.out y (List.mem_of_getElem? hy)
            have hso2 := HSO.out y hgy
            rw [hyk] at hso2
            have HY := Lib.hid hy
            have HYN := Lib.hid hyn
            have HC : Hid (Calls Try.prog 53 #[.string p, .string v2] wr fun e w' => e = .returned (.int .i64 (sortN (kd p) (kd v2))) ∧ wr = w') := Lib.hid ((sort53_any p v2 wr).mono fun _ _ h => ⟨h.1, h.2.symm⟩)
            have HYK := Lib.hid hyk
            clear hy hgy hyn hb2 hyk hbo
            generalize sortN (kd p) (kd v2) = N2 at *
            have HN2 : Hid ((byP p y).code (kd p) = N2) := Lib.hid hso2.symm
            clear hso2
            by_cases hmm : N2 = (N : Int)
            · have hm1 : ((N2 : Int) != N) = false := by simpa using hmm
              have HXY : Hid (byP p y = byP p x) := Lib.hid (code_inj (p := kd p) (by rw [HN2.out, HN.out]; exact hmm))
              clear hmm
              obtain ⟨zs', hz', hZ'⟩ := (RdF.one (w := wr) (S := S) (S' := Sn wr.heap.size S) #[.int .i64 v0, .int .i64 v1, .string v2, .slice v3 v3n v3c, .slice v4 v4n v4c, .slice v5 v5n v5c] y HYN.out (fun _ _ h => .inl h) wr.heap.size rfl (.inr (Nat.le_refl _))).z
              have hzl : zs'.length = 1 := hZ'.len
              have hsub : ∀ b, b < (wr.alloc (.cells #[.int .i64 v0, .int .i64 v1, .string v2, .slice v3 v3n v3c, .slice v4 v4n v4c, .slice v5 v5n v5c] 31)).heap.size → Sn wr.heap.size S b → Sx wo.heap.size S (.slice D zr.length e) b := fun b _ h =>
                sx_of (fun g hg => (HRR.out.low g hg).2) HSW.out (fun g hg => (HRR.out.low g hg).1) HBR.out.size b h
              have hrow : Row (wr.alloc (.cells #[.int .i64 v0, .int .i64 v1, .string v2, .slice v3 v3n v3c, .slice v4 v4n v4c, .slice v5 v5n v5c] 31)) wo.heap.size S (.slice D zr.length e) zr := HRR.out.below (blAl _)
              have HRW := Lib.hid hrow
              have HZ1 := Lib.hid hZ'
              have HSB := Lib.hid hsub
              have HVZ := Lib.hid hz'
              have hnw : wo.heap.size ≤ (wr.alloc (.cells #[.int .i64 v0, .int .i64 v1, .string v2, .slice v3 v3n v3c, .slice v4 v4n v4c, .slice v5 v5n v5c] 31)).heap.size := by rw [World.size_alloc]; exact Nat.le_trans HBR.out.size (Nat.le_succ _)
              have HNW := Lib.hid hnw
              clear hrow hZ' hsub hz' hnw
              go_wp2_with (first | (at_builtin; refine wpList_rows rfl (.tmp 58) (.tmp 63) rfl rfl HRW.out rfl HZ1.out HSB.out ?len HNW.out ?_) | (go_at_call 53; refine HC.out.mono ?_; rintro e w' ⟨rfl, rfl⟩))
              case len => have := hzk.out; rw [hzl]; omega
              intro A' c' w1 hrow1 hg1 hat1
              have HR1 := Lib.hid hrow1
              have hB1 : Below wo.heap.size wo w1 := (HBR.out.alloc HBR.out.size _).trans (HRW.out.grown_below hg1 HNW.out)
              have HB1 := Lib.hid hB1
              clear hrow1 hg1 hat1 hB1
              have HAL2 : Hid (∀ j t, j < k + 1 → (ts.drop i)[j]? = some t → byP p t = byP p x) := Lib.hid fun j t hj ht => by
                rcases Nat.lt_or_ge j k with h | h
                · exact HALL.out j t h ht
                · obtain rfl : j = k := by omega
                  rw [List.getElem?_drop, HY.out] at ht
                  cases ht
                  exact HXY.out
              go_wp2_with fail
              go_roundw
              case rel => exact ⟨k + 1, zr ++ zs', A', c', by go_num, by omega, by rw [List.length_append, hzl], Lib.hid (by rw [List.length_append, hzl]; exact HR1.out), Lib.hid (by
                rw [vz_append, HRV.out, HVZ.out, take_at HY.out]), Lib.hid (by rw [List.length_append, hzl, hzk.out]), HB1, HAL2⟩
              case measure => simp [intOf]; omega
            · have hm1 : ((N2 : Int) != N) = true := by simpa using hmm
              have hk1 : 1 ≤ k := by
                rcases Nat.eq_zero_or_pos k with h | h
                · subst h
                  have h2 := HY.out
                  rw [Nat.add_zero, HX.out] at h2
                  cases h2
                  exact absurd (HN2.out.symm.trans HN.out) hmm
                · exact h
              have HF : Hid (fitT (kd p) (ts.drop i) = wrapT (kd p) (byP p x) ((ts.drop i).take k) ++ fitT (kd p) (ts.drop (i + k))) := Lib.hid (by
                have := fitT_run (p := kd p) (s := byP p x) (l := ts.drop i) hk1 HALL.out (by rw [List.length_drop, HTL.out]; omega) (.inr ⟨y, by rw [List.getElem?_drop]; exact HY.out, fun e => hmm (by rw [← HN2.out, ← HN.out]; exact congrArg _ e)⟩)
                rwa [List.drop_drop] at this)
              clear hmm
              obtain ⟨t, htt, hcw⟩ := HW.out wr (fun b => Sn wo.heap.size S b ∧ b < wr.heap.size) (byP p x) D zr.length e ((ts.drop i).take k) HST.out (by
                  intro e
                  have := congrArg List.length e
                  rw [List.length_take, List.length_drop, HTL.out] at this
                  simp at this
                  omega) (fun t ht => HG.out t (List.mem_of_mem_drop (List.mem_of_mem_take ht))) (by have := hzk.out; omega) (fun b h => h.2) (by
                  rw [← HRV.out]
                  exact HRR.out.rd fun b hb h => ⟨h, hb⟩)
              simp only [HN.out] at hcw
              have HTT := Lib.hid htt
              have HCW := Lib.hid hcw
              clear htt hcw
              go_wp2_with (first | (go_at_call 53; refine HC.out.mono ?_; rintro e w' ⟨rfl, rfl⟩))
              refine HCW.out.mono ?_
              rintro e w2 ⟨v, rfl, hv, hB2⟩
              obtain ⟨q0, q1, q2, q3, q3n, q3c, q4, q4n, q4c, q5, q5n, q5c, qa, qt, qk, hue, -⟩ := hv.parts
              have hue2 : v = #[.int .i64 q0, .int .i64 q1, .string q2, .slice q3 q3n q3c, .slice q4 q4n q4c, .slice q5 q5n q5c] := by rw [← Array.toArray_toList (xs := v), hue]
              subst hue2
              clear hue
              have hB3 : Below wo.heap.size wo w2 := HBR.out.trans (hB2.mono HBR.out.size)
              obtain ⟨zs', hz', hZ'⟩ := (RdF.one (w := w2) (S := Sn wr.heap.size (fun b => Sn wo.heap.size S b ∧ b < wr.heap.size)) (S' := Sn wo.heap.size S) #[.int .i64 q0, .int .i64 q1, .string q2, .slice q3 q3n q3c, .slice q4 q4n q4c, .slice q5 q5n q5c] t hv (fun b _ h => h.elim (fun h => h.1) (fun h => .inr (Nat.le_trans HBR.out.size h))) w2.heap.size rfl (.inr hB3.size)).z
              have hzl : zs'.length = 1 := hZ'.len
              have hsub : ∀ b, b < (w2.alloc (.cells #[.int .i64 q0, .int .i64 q1, .string q2, .slice q3 q3n q3c, .slice q4 q4n q4c, .slice q5 q5n q5c] 31)).heap.size → Sn wo.heap.size S b → Sx w.heap.size S (.slice B zs.length d) b := fun b _ h =>
                sx_of (fun g hg => (HROW.out.low g hg).2) HS.out (fun g hg => (HROW.out.low g hg).1) hno b h
              have hB4 : Below wo.heap.size wo (w2.alloc (.cells #[.int .i64 q0, .int .i64 q1, .string q2, .slice q3 q3n q3c, .slice q4 q4n q4c, .slice q5 q5n q5c] 31)) := hB3.alloc hB3.size _
              have hrow : Row (w2.alloc (.cells #[.int .i64 q0, .int .i64 q1, .string q2, .slice q3 q3n q3c, .slice q4 q4n q4c, .slice q5 q5n q5c] 31)) w.heap.size S (.slice B zs.length d) zs := HROW.out.below hB4
              have HRW := Lib.hid hrow
              have HZ1 := Lib.hid hZ'
              have HSB := Lib.hid hsub
              have HVZ := Lib.hid hz'
              have HB4 := Lib.hid hB4
              have hnw : w.heap.size ≤ (w2.alloc (.cells #[.int .i64 q0, .int .i64 q1, .string q2, .slice q3 q3n q3c, .slice q4 q4n q4c, .slice q5 q5n q5c] 31)).heap.size := Nat.le_trans hno hB4.size
              have HNW := Lib.hid hnw
              clear hrow hZ' hsub hz' hnw hB3 hB4 hB2 hv
              go_wp2_with (at_builtin; refine wpList_rows rfl (.tmp 67) (.tmp 72) rfl rfl HRW.out rfl HZ1.out HSB.out ?len HNW.out ?_)
              case len => rw [hzl]; omega
              intro A' c' w5 hrow1 hg1 hat1
              have HR1 := Lib.hid hrow1
              have hB1 : Below w.heap.size w w5 := HB.out.trans ((HB4.out.mono hno).trans (HRW.out.grown_below hg1 HNW.out))
              have HB1 := Lib.hid hB1
              clear hrow1 hg1 hat1 hB1
              go_wp2_with fail
              go_roundw
              case rel => exact ⟨i + k, zs ++ zs', A', c', by first | rfl | rw [hkn], hikn, by rw [List.length_append, hzl], Lib.hid (by rw [List.length_append, hzl]; exact HR1.out), Lib.hid (by
                rw [← HEQ.out, HF.out, HTT.out, vz_append, HVZ.out]; simp), HB1, by rw [List.length_append, hzl]; omega⟩
              case measure => simp [intOf]; omega
          · have hkn : i + k = n := by omega
            have hk1 : 1 ≤ k := by omega
            have ik2 : ¬ ((i + k : Nat) : Int) < (n : Int) := by omega
            have HF : Hid (fitT (kd p) (ts.drop i) = wrapT (kd p) (byP p x) ((ts.drop i).take k) ++ fitT (kd p) (ts.drop (i + k))) := Lib.hid (by
              have := fitT_run (p := kd p) (s := byP p x) (l := ts.drop i) hk1 HALL.out (by rw [List.length_drop, HTL.out]; omega) (.inl (by rw [List.length_drop, HTL.out]; omega))
              rwa [List.drop_drop] at this)
            obtain ⟨t, htt, hcw⟩ := HW.out wr (fun b => Sn wo.heap.size S b ∧ b < wr.heap.size) (byP p x) D zr.length e ((ts.drop i).take k) HST.out (by
                intro e
                have := congrArg List.length e
                rw [List.length_take, List.length_drop, HTL.out] at this
                simp at this
                omega) (fun t ht => HG.out t (List.mem_of_mem_drop (List.mem_of_mem_take ht))) (by have := hzk.out; omega) (fun b h => h.2) (by
                rw [← HRV.out]
                exact HRR.out.rd fun b hb h => ⟨h, hb⟩)
            simp only [HN.out] at hcw
            have HTT := Lib.hid htt
            have HCW := Lib.hid hcw
            clear htt hcw
            go_wp2_with (first | (go_at_call 53; refine HC.out.mono ?_; rintro e w' ⟨rfl, rfl⟩))
            refine HCW.out.mono ?_
            rintro e w2 ⟨v, rfl, hv, hB2⟩
            obtain ⟨q0, q1, q2, q3, q3n, q3c, q4, q4n, q4c, q5, q5n, q5c, qa, qt, qk, hue, -⟩ := hv.parts
            have hue2 : v = #[.int .i64 q0, .int .i64 q1, .string q2, .slice q3 q3n q3c, .slice q4 q4n q4c, .slice q5 q5n q5c] := by rw [← Array.toArray_toList (xs := v), hue]
            subst hue2
            clear hue
            have hB3 : Below wo.heap.size wo w2 := HBR.out.trans (hB2.mono HBR.out.size)
            obtain ⟨zs', hz', hZ'⟩ := (RdF.one (w := w2) (S := Sn wr.heap.size (fun b => Sn wo.heap.size S b ∧ b < wr.heap.size)) (S' := Sn wo.heap.size S) #[.int .i64 q0, .int .i64 q1, .string q2, .slice q3 q3n q3c, .slice q4 q4n q4c, .slice q5 q5n q5c] t hv (fun b _ h => h.elim (fun h => h.1) (fun h => .inr (Nat.le_trans HBR.out.size h))) w2.heap.size rfl (.inr hB3.size)).z
            have hzl : zs'.length = 1 := hZ'.len
            have hsub : ∀ b, b < (w2.alloc (.cells #[.int .i64 q0, .int .i64 q1, .string q2, .slice q3 q3n q3c, .slice q4 q4n q4c, .slice q5 q5n q5c] 31)).heap.size → Sn wo.heap.size S b → Sx w.heap.size S (.slice B zs.length d) b := fun b _ h =>
              sx_of (fun g hg => (HROW.out.low g hg).2) HS.out (fun g hg => (HROW.out.low g hg).1) hno b h
            have hB4 : Below wo.heap.size wo (w2.alloc (.cells #[.int .i64 q0, .int .i64 q1, .string q2, .slice q3 q3n q3c, .slice q4 q4n q4c, .slice q5 q5n q5c] 31)) := hB3.alloc hB3.size _
            have hrow : Row (w2.alloc (.cells #[.int .i64 q0, .int .i64 q1, .string q2, .slice q3 q3n q3c, .slice q4 q4n q4c, .slice q5 q5n q5c] 31)) w.heap.size S (.slice B zs.length d) zs := HROW.out.below hB4
            have HRW := Lib.hid hrow
            have HZ1 := Lib.hid hZ'
            have HSB := Lib.hid hsub
            have HVZ := Lib.hid hz'
            have HB4 := Lib.hid hB4
            have hnw : w.heap.size ≤ (w2.alloc (.cells #[.int .i64 q0, .int .i64 q1, .string q2, .slice q3 q3n q3c, .slice q4 q4n q4c, .slice q5 q5n q5c] 31)).heap.size := Nat.le_trans hno hB4.size
            have HNW := Lib.hid hnw
            clear hrow hZ' hsub hz' hnw hB3 hB4 hB2 hv
            go_wp2_with (at_builtin; refine wpList_rows rfl (.tmp 67) (.tmp 72) rfl rfl HRW.out rfl HZ1.out HSB.out ?len HNW.out ?_)
            case len => rw [hzl]; omega
            intro A' c' w5 hrow1 hg1 hat1
            have HR1 := Lib.hid hrow1
            have hB1 : Below w.heap.size w w5 := HB.out.trans ((HB4.out.mono hno).trans (HRW.out.grown_below hg1 HNW.out))
            have HB1 := Lib.hid hB1
            clear hrow1 hg1 hat1 hB1
            go_wp2_with fail
            go_roundw
            case rel => exact ⟨i + k, zs ++ zs', A', c', by first | rfl | rw [hkn], hikn, by rw [List.length_append, hzl], Lib.hid (by rw [List.length_append, hzl]; exact HR1.out), Lib.hid (by
              rw [← HEQ.out, HF.out, HTT.out, vz_append, HVZ.out]; simp), HB1, by rw [List.length_append, hzl]; omega⟩
            case measure => simp [intOf]; omega
    · obtain rfl : i = n := by omega
      have HF : Hid (vz zs = fitT (kd p) ts) := Lib.hid (by
        have := HEQ.out
        rw [List.drop_of_length_le (by rw [HTL.out]; exact Nat.le_refl _)] at this
        simpa [fitT, runsBy] using this)
      go_wp2_with fail
      go_ret
      refine ⟨_, _, _, rfl, ?_, HB.out⟩
      rw [← HF.out]
      exact HROW.out.rd fun _ _ h => h

set_option maxRecDepth 100000 in
set_option maxHeartbeats 4000000 in
theorem fit43_tab (p : ByteArray) (hp : kd p = .table) (hW : WrapC 54 p fun s => .int .i64 (s.code (kd p))) : FitC 43 p := by
  intro w S A n c ts hG hn hS hr
  have tb : (p.toList == [116, 97, 98, 108, 101]) = true := by rw [is_table]; rw [hp]; rfl
  have HW := Lib.hid hW
  have HG := Lib.hid hG
  have HS := Lib.hid hS
  have HR := Lib.hid hr
  have HTL := Lib.hid hr.length
  have HSO : Hid (∀ t : RT, Good t → ((sortN (kd p) (kd t.kind) = 2 ∧ (byP p t).code (kd p) = 5) ∨ (sortN (kd p) (kd t.kind) ≠ 2 ∧ sortN (kd p) (kd t.kind) = (byP p t).code (kd p)))) := Lib.hid fun t ht => by
    unfold byP; rw [hp]; exact sort_tab ht.1 ht.2
  clear hW hG hS hr hp 
  go_enter Try.func43, Try.ntmps43
  go_wp2_with fail
  go_loopw [5, 6] (fun s5 s6 wr => ∃ (i : Nat) (zs : List (Z RT 6)) (B : Option Addr) (d : Nat), s6 = .int .i64 i ∧ i ≤ n ∧ s5 = .slice B zs.length d ∧ Hid (Row wr w.heap.size S (.slice B zs.length d) zs) ∧ Hid (vz zs ++ fitT (kd p) (ts.drop i) = fitT (kd p) ts) ∧ Hid (Below w.heap.size w wr) ∧ zs.length ≤ i) (fun s5 s6 _ => n - (intOf s6).toNat)
  case atStart => exact ⟨0, [], none, 0, rfl, Nat.zero_le _, rfl, Lib.hid (Row.nil _ _ _), Lib.hid (by simp [vz]), Lib.hid (Below.refl _ _), Nat.le_refl _⟩
  case round =>
    obtain ⟨i, zs, B, d, rfl, hin, rfl, HROW, HEQ, HB, hzi⟩ := hrel
    by_cases hlt : i < n
    · obtain ⟨b, off, x, u0, u1, u2, u3, u3n, u3c, u4, u4n, u4c, u5, u5n, u5c, rfl, hx, hb, hSb, hxk, hxn, c0, c1, c2, c3, c4, c5⟩ := (HR.out.stay (.below HB.out fun _ _ h => h) : RdF wr S A n c ts).nodeAt hlt
      have ik : (i : Int) < (n : Int) := by omega
      have ik0 : (0 : Int) ≤ (i : Int) := by omega
      have hgx := HG.out x (List.mem_of_getElem? hx)
      have hso := HSO.out x hgx
      rw [hxk] at hso
      have HX := Lib.hid hx
      have HXN := Lib.hid hxn
      have HC : Hid (Calls Try.prog 53 #[.string p, .string u2] wr fun e w' => e = .returned (.int .i64 (sortN (kd p) (kd u2))) ∧ wr = w') := Lib.hid ((sort53_any p u2 wr).mono fun _ _ h => ⟨h.1, h.2.symm⟩)
      have hns : wr.heap.size ≥ w.heap.size := HB.out.size
      have HXK := Lib.hid hxk
      clear hx hgx hxn hSb hb hxk
      rcases hso with hso | hso
      · rw [hso.1] at HC
        have HN : Hid ((byP p x).code (kd p) = 5) := Lib.hid hso.2
        clear hso
        have HST : Hid (¬ byP p x = .stay) := Lib.hid fun e => by have := (code_stay (p := kd p)).2 e; rw [HN.out] at this; omega
        go_wp2_with (first | (go_at_call 53; refine HC.out.mono ?_; rintro e w' ⟨rfl, rfl⟩))
        have HR0 : Hid (RdF wr S (some ⟨b, off, none⟩) n c ts) := Lib.hid (HR.out.stay (.below HB.out fun _ _ h => h))
        have HSW : Hid (∀ b, S b → b < wr.heap.size) := Lib.hid fun b h => Nat.lt_of_lt_of_le (HS.out b h) hns
        clear c0 c1 c2 c3 c4 c5 HC
        generalize hwo : wr = wo at *
        go_loopw [6, 8] (fun s6 s8 wr => ∃ (k : Nat) (zr : List (Z RT 6)) (D : Option Addr) (e : Nat), s6 = .int .i64 (i + k : Nat) ∧ i + k ≤ n ∧ s8 = .slice D zr.length e ∧ Hid (Row wr wo.heap.size S (.slice D zr.length e) zr) ∧ Hid (vz zr = (ts.drop i).take k) ∧ Hid (zr.length = k) ∧ Hid (Below wo.heap.size wo wr) ∧ Hid (∀ j t, j < k → (ts.drop i)[j]? = some t → byP p t = byP p x)) (fun s6 _ _ => n - (intOf s6).toNat)
        case atStart => exact ⟨0, [], none, 0, rfl, hin, rfl, Lib.hid (Row.nil _ _ _), Lib.hid (by simp [vz]), Lib.hid rfl, Lib.hid (Below.refl _ _), Lib.hid fun j t hj => absurd hj (Nat.not_lt_zero _)⟩
        case round =>
          obtain ⟨k, zr, D, e, rfl, hikn, rfl, HRR, HRV, hzk, HBR, HALL⟩ := hrel
          have hno : w.heap.size ≤ wo.heap.size := hns
          by_cases hl2 : i + k < n
          · obtain ⟨b', off', y, v0, v1, v2, v3, v3n, v3c, v4, v4n, v4c, v5, v5n, v5c, hbo, hy, hb2, -, hyk, hyn, c0, c1, c2, c3, c4, c5⟩ := (HR0.out.stay (.below HBR.out fun _ _ h => h) : RdF wr S (some ⟨b, off, none⟩) n c ts).nodeAt hl2
            obtain ⟨rfl, rfl⟩ : b = b' ∧ off = off' := by injection hbo with e; injection e with e1 e2; exact ⟨e1, e2⟩
            have ik2 : ((i + k : Nat) : Int) < (n : Int) := by omega
            have ik3 : (0 : Int) ≤ ((i + k : Nat) : Int) := by omega
            have hgy := HG.out y (List.mem_of_getElem? hy)
            have hso2 := HSO.out y hgy
            rw [hyk] at hso2
            have HY := Lib.hid hy
            have HYN := Lib.hid hyn
            have HC : Hid (Calls Try.prog 53 #[.string p, .string v2] wr fun e w' => e = .returned (.int .i64 (sortN (kd p) (kd v2))) ∧ wr = w') := Lib.hid ((sort53_any p v2 wr).mono fun _ _ h => ⟨h.1, h.2.symm⟩)
            have HYK := Lib.hid hyk
            clear hy hgy hyn hb2 hyk hbo
            rcases hso2 with hso2 | hso2
            · rw [hso2.1] at HC
              have HN2 : Hid ((byP p y).code (kd p) = 5) := Lib.hid hso2.2
              clear hso2
              have HXY : Hid (byP p y = byP p x) := Lib.hid (code_inj (p := kd p) (by rw [HN2.out, HN.out]))
              obtain ⟨zs', hz', hZ'⟩ := (RdF.one (w := wr) (S := S) (S' := Sn wr.heap.size S) #[.int .i64 v0, .int .i64 v1, .string v2, .slice v3 v3n v3c, .slice v4 v4n v4c, .slice v5 v5n v5c] y HYN.out (fun _ _ h => .inl h) wr.heap.size rfl (.inr (Nat.le_refl _))).z
              have hzl : zs'.length = 1 := hZ'.len
              have hsub : ∀ b, b < (wr.alloc (.cells #[.int .i64 v0, .int .i64 v1, .string v2, .slice v3 v3n v3c, .slice v4 v4n v4c, .slice v5 v5n v5c] 31)).heap.size → Sn wr.heap.size S b → Sx wo.heap.size S (.slice D zr.length e) b := fun b _ h =>
                sx_of (fun g hg => (HRR.out.low g hg).2) HSW.out (fun g hg => (HRR.out.low g hg).1) HBR.out.size b h
              have hrow : Row (wr.alloc (.cells #[.int .i64 v0, .int .i64 v1, .string v2, .slice v3 v3n v3c, .slice v4 v4n v4c, .slice v5 v5n v5c] 31)) wo.heap.size S (.slice D zr.length e) zr := HRR.out.below (blAl _)
              have HRW := Lib.hid hrow
              have HZ1 := Lib.hid hZ'
              have HSB := Lib.hid hsub
              have HVZ := Lib.hid hz'
              have hnw : wo.heap.size ≤ (wr.alloc (.cells #[.int .i64 v0, .int .i64 v1, .string v2, .slice v3 v3n v3c, .slice v4 v4n v4c, .slice v5 v5n v5c] 31)).heap.size := by rw [World.size_alloc]; exact Nat.le_trans HBR.out.size (Nat.le_succ _)
              have HNW := Lib.hid hnw
              clear hrow hZ' hsub hz' hnw
              go_wp2_with (first | (at_builtin; refine wpList_rows rfl (.tmp 58) (.tmp 63) rfl rfl HRW.out rfl HZ1.out HSB.out ?len HNW.out ?_) | (go_at_call 53; refine HC.out.mono ?_; rintro e w' ⟨rfl, rfl⟩))
              case len => have := hzk.out; rw [hzl]; omega
              intro A' c' w1 hrow1 hg1 hat1
              have HR1 := Lib.hid hrow1
              have hB1 : Below wo.heap.size wo w1 := (HBR.out.alloc HBR.out.size _).trans (HRW.out.grown_below hg1 HNW.out)
              have HB1 := Lib.hid hB1
              clear hrow1 hg1 hat1 hB1
              have HAL2 : Hid (∀ j t, j < k + 1 → (ts.drop i)[j]? = some t → byP p t = byP p x) := Lib.hid fun j t hj ht => by
                rcases Nat.lt_or_ge j k with h | h
                · exact HALL.out j t h ht
                · obtain rfl : j = k := by omega
                  rw [List.getElem?_drop, HY.out] at ht
                  cases ht
                  exact HXY.out
              go_wp2_with fail
              go_roundw
              case rel => exact ⟨k + 1, zr ++ zs', A', c', by go_num, by omega, by rw [List.length_append, hzl], Lib.hid (by rw [List.length_append, hzl]; exact HR1.out), Lib.hid (by
                rw [vz_append, HRV.out, HVZ.out, take_at HY.out]), Lib.hid (by rw [List.length_append, hzl, hzk.out]), HB1, HAL2⟩
              case measure => simp [intOf]; omega
            · generalize sortN (kd p) (kd v2) = N2 at *
              have HN2 : Hid ((byP p y).code (kd p) = N2) := Lib.hid hso2.2.symm
              have n22 : (N2 == 2) = false := by simpa using hso2.1
              clear hso2
              by_cases hmm : N2 = (5 : Int)
              · have hm1 : ((N2 : Int) != 5) = false := by simpa using hmm
                have HXY : Hid (byP p y = byP p x) := Lib.hid (code_inj (p := kd p) (by rw [HN2.out, HN.out]; exact hmm))
                clear hmm
                obtain ⟨zs', hz', hZ'⟩ := (RdF.one (w := wr) (S := S) (S' := Sn wr.heap.size S) #[.int .i64 v0, .int .i64 v1, .string v2, .slice v3 v3n v3c, .slice v4 v4n v4c, .slice v5 v5n v5c] y HYN.out (fun _ _ h => .inl h) wr.heap.size rfl (.inr (Nat.le_refl _))).z
                have hzl : zs'.length = 1 := hZ'.len
                have hsub : ∀ b, b < (wr.alloc (.cells #[.int .i64 v0, .int .i64 v1, .string v2, .slice v3 v3n v3c, .slice v4 v4n v4c, .slice v5 v5n v5c] 31)).heap.size → Sn wr.heap.size S b → Sx wo.heap.size S (.slice D zr.length e) b := fun b _ h =>
                  sx_of (fun g hg => (HRR.out.low g hg).2) HSW.out (fun g hg => (HRR.out.low g hg).1) HBR.out.size b h
                have hrow : Row (wr.alloc (.cells #[.int .i64 v0, .int .i64 v1, .string v2, .slice v3 v3n v3c, .slice v4 v4n v4c, .slice v5 v5n v5c] 31)) wo.heap.size S (.slice D zr.length e) zr := HRR.out.below (blAl _)
                have HRW := Lib.hid hrow
                have HZ1 := Lib.hid hZ'
                have HSB := Lib.hid hsub
                have HVZ := Lib.hid hz'
                have hnw : wo.heap.size ≤ (wr.alloc (.cells #[.int .i64 v0, .int .i64 v1, .string v2, .slice v3 v3n v3c, .slice v4 v4n v4c, .slice v5 v5n v5c] 31)).heap.size := by rw [World.size_alloc]; exact Nat.le_trans HBR.out.size (Nat.le_succ _)
                have HNW := Lib.hid hnw
                clear hrow hZ' hsub hz' hnw
                go_wp2_with (first | (at_builtin; refine wpList_rows rfl (.tmp 58) (.tmp 63) rfl rfl HRW.out rfl HZ1.out HSB.out ?len HNW.out ?_) | (go_at_call 53; refine HC.out.mono ?_; rintro e w' ⟨rfl, rfl⟩))
                case len => have := hzk.out; rw [hzl]; omega
                intro A' c' w1 hrow1 hg1 hat1
                have HR1 := Lib.hid hrow1
                have hB1 : Below wo.heap.size wo w1 := (HBR.out.alloc HBR.out.size _).trans (HRW.out.grown_below hg1 HNW.out)
                have HB1 := Lib.hid hB1
                clear hrow1 hg1 hat1 hB1
                have HAL2 : Hid (∀ j t, j < k + 1 → (ts.drop i)[j]? = some t → byP p t = byP p x) := Lib.hid fun j t hj ht => by
                  rcases Nat.lt_or_ge j k with h | h
                  · exact HALL.out j t h ht
                  · obtain rfl : j = k := by omega
                    rw [List.getElem?_drop, HY.out] at ht
                    cases ht
                    exact HXY.out
                go_wp2_with fail
                go_roundw
                case rel => exact ⟨k + 1, zr ++ zs', A', c', by go_num, by omega, by rw [List.length_append, hzl], Lib.hid (by rw [List.length_append, hzl]; exact HR1.out), Lib.hid (by
                  rw [vz_append, HRV.out, HVZ.out, take_at HY.out]), Lib.hid (by rw [List.length_append, hzl, hzk.out]), HB1, HAL2⟩
                case measure => simp [intOf]; omega
              · have hm1 : ((N2 : Int) != 5) = true := by simpa using hmm
                have hk1 : 1 ≤ k := by
                  rcases Nat.eq_zero_or_pos k with h | h
                  · subst h
                    have h2 := HY.out
                    rw [Nat.add_zero, HX.out] at h2
                    cases h2
                    exact absurd (HN2.out.symm.trans HN.out) hmm
                  · exact h
                have HF : Hid (fitT (kd p) (ts.drop i) = wrapT (kd p) (byP p x) ((ts.drop i).take k) ++ fitT (kd p) (ts.drop (i + k))) := Lib.hid (by
                  have := fitT_run (p := kd p) (s := byP p x) (l := ts.drop i) hk1 HALL.out (by rw [List.length_drop, HTL.out]; omega) (.inr ⟨y, by rw [List.getElem?_drop]; exact HY.out, fun e => hmm (by rw [← HN2.out, ← HN.out]; exact congrArg _ e)⟩)
                  rwa [List.drop_drop] at this)
                clear hmm
                obtain ⟨t, htt, hcw⟩ := HW.out wr (fun b => Sn wo.heap.size S b ∧ b < wr.heap.size) (byP p x) D zr.length e ((ts.drop i).take k) HST.out (by
                    intro e
                    have := congrArg List.length e
                    rw [List.length_take, List.length_drop, HTL.out] at this
                    simp at this
                    omega) (fun t ht => HG.out t (List.mem_of_mem_drop (List.mem_of_mem_take ht))) (by have := hzk.out; omega) (fun b h => h.2) (by
                    rw [← HRV.out]
                    exact HRR.out.rd fun b hb h => ⟨h, hb⟩)
                simp only [HN.out] at hcw
                have HTT := Lib.hid htt
                have HCW := Lib.hid hcw
                clear htt hcw
                go_wp2_with (first | (go_at_call 53; refine HC.out.mono ?_; rintro e w' ⟨rfl, rfl⟩))
                refine HCW.out.mono ?_
                rintro e w2 ⟨v, rfl, hv, hB2⟩
                obtain ⟨q0, q1, q2, q3, q3n, q3c, q4, q4n, q4c, q5, q5n, q5c, qa, qt, qk, hue, -⟩ := hv.parts
                have hue2 : v = #[.int .i64 q0, .int .i64 q1, .string q2, .slice q3 q3n q3c, .slice q4 q4n q4c, .slice q5 q5n q5c] := by rw [← Array.toArray_toList (xs := v), hue]
                subst hue2
                clear hue
                have hB3 : Below wo.heap.size wo w2 := HBR.out.trans (hB2.mono HBR.out.size)
                obtain ⟨zs', hz', hZ'⟩ := (RdF.one (w := w2) (S := Sn wr.heap.size (fun b => Sn wo.heap.size S b ∧ b < wr.heap.size)) (S' := Sn wo.heap.size S) #[.int .i64 q0, .int .i64 q1, .string q2, .slice q3 q3n q3c, .slice q4 q4n q4c, .slice q5 q5n q5c] t hv (fun b _ h => h.elim (fun h => h.1) (fun h => .inr (Nat.le_trans HBR.out.size h))) w2.heap.size rfl (.inr hB3.size)).z
                have hzl : zs'.length = 1 := hZ'.len
                have hsub : ∀ b, b < (w2.alloc (.cells #[.int .i64 q0, .int .i64 q1, .string q2, .slice q3 q3n q3c, .slice q4 q4n q4c, .slice q5 q5n q5c] 31)).heap.size → Sn wo.heap.size S b → Sx w.heap.size S (.slice B zs.length d) b := fun b _ h =>
                  sx_of (fun g hg => (HROW.out.low g hg).2) HS.out (fun g hg => (HROW.out.low g hg).1) hno b h
                have hB4 : Below wo.heap.size wo (w2.alloc (.cells #[.int .i64 q0, .int .i64 q1, .string q2, .slice q3 q3n q3c, .slice q4 q4n q4c, .slice q5 q5n q5c] 31)) := hB3.alloc hB3.size _
                have hrow : Row (w2.alloc (.cells #[.int .i64 q0, .int .i64 q1, .string q2, .slice q3 q3n q3c, .slice q4 q4n q4c, .slice q5 q5n q5c] 31)) w.heap.size S (.slice B zs.length d) zs := HROW.out.below hB4
                have HRW := Lib.hid hrow
                have HZ1 := Lib.hid hZ'
                have HSB := Lib.hid hsub
                have HVZ := Lib.hid hz'
                have HB4 := Lib.hid hB4
                have hnw : w.heap.size ≤ (w2.alloc (.cells #[.int .i64 q0, .int .i64 q1, .string q2, .slice q3 q3n q3c, .slice q4 q4n q4c, .slice q5 q5n q5c] 31)).heap.size := Nat.le_trans hno hB4.size
                have HNW := Lib.hid hnw
                clear hrow hZ' hsub hz' hnw hB3 hB4 hB2 hv
                go_wp2_with (at_builtin; refine wpList_rows rfl (.tmp 67) (.tmp 72) rfl rfl HRW.out rfl HZ1.out HSB.out ?len HNW.out ?_)
                case len => rw [hzl]; omega
                intro A' c' w5 hrow1 hg1 hat1
                have HR1 := Lib.hid hrow1
                have hB1 : Below w.heap.size w w5 := HB.out.trans ((HB4.out.mono hno).trans (HRW.out.grown_below hg1 HNW.out))
                have HB1 := Lib.hid hB1
                clear hrow1 hg1 hat1 hB1
                go_wp2_with fail
                go_roundw
                case rel => exact ⟨i + k, zs ++ zs', A', c', by first | rfl | rw [hkn], hikn, by rw [List.length_append, hzl], Lib.hid (by rw [List.length_append, hzl]; exact HR1.out), Lib.hid (by
                  rw [← HEQ.out, HF.out, HTT.out, vz_append, HVZ.out]; simp), HB1, by rw [List.length_append, hzl]; omega⟩
                case measure => simp [intOf]; omega
          · have hkn : i + k = n := by omega
            have hk1 : 1 ≤ k := by omega
            have ik2 : ¬ ((i + k : Nat) : Int) < (n : Int) := by omega
            have HF : Hid (fitT (kd p) (ts.drop i) = wrapT (kd p) (byP p x) ((ts.drop i).take k) ++ fitT (kd p) (ts.drop (i + k))) := Lib.hid (by
              have := fitT_run (p := kd p) (s := byP p x) (l := ts.drop i) hk1 HALL.out (by rw [List.length_drop, HTL.out]; omega) (.inl (by rw [List.length_drop, HTL.out]; omega))
              rwa [List.drop_drop] at this)
            obtain ⟨t, htt, hcw⟩ := HW.out wr (fun b => Sn wo.heap.size S b ∧ b < wr.heap.size) (byP p x) D zr.length e ((ts.drop i).take k) HST.out (by
                intro e
                have := congrArg List.length e
                rw [List.length_take, List.length_drop, HTL.out] at this
                simp at this
                omega) (fun t ht => HG.out t (List.mem_of_mem_drop (List.mem_of_mem_take ht))) (by have := hzk.out; omega) (fun b h => h.2) (by
                rw [← HRV.out]
                exact HRR.out.rd fun b hb h => ⟨h, hb⟩)
            simp only [HN.out] at hcw
            have HTT := Lib.hid htt
            have HCW := Lib.hid hcw
            clear htt hcw
            go_wp2_with (first | (go_at_call 53; refine HC.out.mono ?_; rintro e w' ⟨rfl, rfl⟩))
            refine HCW.out.mono ?_
            rintro e w2 ⟨v, rfl, hv, hB2⟩
            obtain ⟨q0, q1, q2, q3, q3n, q3c, q4, q4n, q4c, q5, q5n, q5c, qa, qt, qk, hue, -⟩ := hv.parts
            have hue2 : v = #[.int .i64 q0, .int .i64 q1, .string q2, .slice q3 q3n q3c, .slice q4 q4n q4c, .slice q5 q5n q5c] := by rw [← Array.toArray_toList (xs := v), hue]
            subst hue2
            clear hue
            have hB3 : Below wo.heap.size wo w2 := HBR.out.trans (hB2.mono HBR.out.size)
            obtain ⟨zs', hz', hZ'⟩ := (RdF.one (w := w2) (S := Sn wr.heap.size (fun b => Sn wo.heap.size S b ∧ b < wr.heap.size)) (S' := Sn wo.heap.size S) #[.int .i64 q0, .int .i64 q1, .string q2, .slice q3 q3n q3c, .slice q4 q4n q4c, .slice q5 q5n q5c] t hv (fun b _ h => h.elim (fun h => h.1) (fun h => .inr (Nat.le_trans HBR.out.size h))) w2.heap.size rfl (.inr hB3.size)).z
            have hzl : zs'.length = 1 := hZ'.len
            have hsub : ∀ b, b < (w2.alloc (.cells #[.int .i64 q0, .int .i64 q1, .string q2, .slice q3 q3n q3c, .slice q4 q4n q4c, .slice q5 q5n q5c] 31)).heap.size → Sn wo.heap.size S b → Sx w.heap.size S (.slice B zs.length d) b := fun b _ h =>
              sx_of (fun g hg => (HROW.out.low g hg).2) HS.out (fun g hg => (HROW.out.low g hg).1) hno b h
            have hB4 : Below wo.heap.size wo (w2.alloc (.cells #[.int .i64 q0, .int .i64 q1, .string q2, .slice q3 q3n q3c, .slice q4 q4n q4c, .slice q5 q5n q5c] 31)) := hB3.alloc hB3.size _
            have hrow : Row (w2.alloc (.cells #[.int .i64 q0, .int .i64 q1, .string q2, .slice q3 q3n q3c, .slice q4 q4n q4c, .slice q5 q5n q5c] 31)) w.heap.size S (.slice B zs.length d) zs := HROW.out.below hB4
            have HRW := Lib.hid hrow
            have HZ1 := Lib.hid hZ'
            have HSB := Lib.hid hsub
            have HVZ := Lib.hid hz'
            have HB4 := Lib.hid hB4
            have hnw : w.heap.size ≤ (w2.alloc (.cells #[.int .i64 q0, .int .i64 q1, .string q2, .slice q3 q3n q3c, .slice q4 q4n q4c, .slice q5 q5n q5c] 31)).heap.size := Nat.le_trans hno hB4.size
            have HNW := Lib.hid hnw
            clear hrow hZ' hsub hz' hnw hB3 hB4 hB2 hv
            go_wp2_with (at_builtin; refine wpList_rows rfl (.tmp 67) (.tmp 72) rfl rfl HRW.out rfl HZ1.out HSB.out ?len HNW.out ?_)
            case len => rw [hzl]; omega
            intro A' c' w5 hrow1 hg1 hat1
            have HR1 := Lib.hid hrow1
            have hB1 : Below w.heap.size w w5 := HB.out.trans ((HB4.out.mono hno).trans (HRW.out.grown_below hg1 HNW.out))
            have HB1 := Lib.hid hB1
            clear hrow1 hg1 hat1 hB1
            go_wp2_with fail
            go_roundw
            case rel => exact ⟨i + k, zs ++ zs', A', c', by first | rfl | rw [hkn], hikn, by rw [List.length_append, hzl], Lib.hid (by rw [List.length_append, hzl]; exact HR1.out), Lib.hid (by
              rw [← HEQ.out, HF.out, HTT.out, vz_append, HVZ.out]; simp), HB1, by rw [List.length_append, hzl]; omega⟩
            case measure => simp [intOf]; omega
      · generalize sortN (kd p) (kd u2) = N at *
        have HN : Hid ((byP p x).code (kd p) = N) := Lib.hid hso.2.symm
        have n2 : (N == 2) = false := by simpa using hso.1
        clear hso
        by_cases hst : byP p x = .stay
        · have h0 : N = 0 := by rw [← HN.out]; exact code_stay.2 hst
          subst h0
          have HST := Lib.hid hst
          clear hst
          obtain ⟨zs', hz', hZ'⟩ := (RdF.one (w := wr) (S := S) (S' := Sn wr.heap.size S) #[.int .i64 u0, .int .i64 u1, .string u2, .slice u3 u3n u3c, .slice u4 u4n u4c, .slice u5 u5n u5c] x HXN.out (fun _ _ h => .inl h) wr.heap.size rfl (.inr (Nat.le_refl _))).z
          have hzl : zs'.length = 1 := hZ'.len
          have hsub : ∀ b, b < (wr.alloc (.cells #[.int .i64 u0, .int .i64 u1, .string u2, .slice u3 u3n u3c, .slice u4 u4n u4c, .slice u5 u5n u5c] 31)).heap.size → Sn wr.heap.size S b → Sx w.heap.size S (.slice B zs.length d) b := fun b _ h =>
            sx_of (fun g hg => (HROW.out.low g hg).2) HS.out (fun g hg => (HROW.out.low g hg).1) hns b h
          have hrow : Row (wr.alloc (.cells #[.int .i64 u0, .int .i64 u1, .string u2, .slice u3 u3n u3c, .slice u4 u4n u4c, .slice u5 u5n u5c] 31)) w.heap.size S (.slice B zs.length d) zs := HROW.out.below (blAl _)
          have HRW := Lib.hid hrow
          have HZ1 := Lib.hid hZ'
          have HSB := Lib.hid hsub
          have HVZ := Lib.hid hz'
          have hnw : w.heap.size ≤ (wr.alloc (.cells #[.int .i64 u0, .int .i64 u1, .string u2, .slice u3 u3n u3c, .slice u4 u4n u4c, .slice u5 u5n u5c] 31)).heap.size := by rw [World.size_alloc]; omega
          have HNW := Lib.hid hnw
          clear hrow hZ' hsub hz' hnw
          go_wp2_with (first | (at_builtin; refine wpList_rows rfl (.tmp 29) (.tmp 34) rfl rfl HRW.out rfl HZ1.out HSB.out ?len HNW.out ?_) | (go_at_call 53; refine HC.out.mono ?_; rintro e w' ⟨rfl, rfl⟩))
          case len => rw [hzl]; omega
          intro A' c' w1 hrow1 hg1 hat1
          have HR1 := Lib.hid hrow1
          have hB1 : Below w.heap.size w w1 := (HB.out.alloc HB.out.size _).trans (HRW.out.grown_below hg1 HNW.out)
          have HB1 := Lib.hid hB1
          clear hrow1 hg1 hat1 hB1
          go_wp2_with fail
          go_roundw
          case rel => exact ⟨i + 1, zs ++ zs', A', c', by go_num, by omega, by rw [List.length_append, hzl], Lib.hid (by rw [List.length_append, hzl]; exact HR1.out), Lib.hid (by
            rw [← HEQ.out, drop_at HX.out, fitT_stay HST.out, vz_append, HVZ.out]; simp), HB1, by rw [List.length_append, hzl]; omega⟩
          case measure => simp [intOf]; omega
        · have h0 : (N == 0) = false := by
            simp only [beq_eq_false_iff_ne, ne_eq]
            rw [← HN.out]
            exact fun e => hst (code_stay.1 e)
          have HST := Lib.hid hst
          clear hst
          go_wp2_with (first | (go_at_call 53; refine HC.out.mono ?_; rintro e w' ⟨rfl, rfl⟩))
          have HR0 : Hid (RdF wr S (some ⟨b, off, none⟩) n c ts) := Lib.hid (HR.out.stay (.below HB.out fun _ _ h => h))
          have HSW : Hid (∀ b, S b → b < wr.heap.size) := Lib.hid fun b h => Nat.lt_of_lt_of_le (HS.out b h) hns
          clear c0 c1 c2 c3 c4 c5 HC
          generalize hwo : wr = wo at *
          go_loopw [6, 8] (fun s6 s8 wr => ∃ (k : Nat) (zr : List (Z RT 6)) (D : Option Addr) (e : Nat), s6 = .int .i64 (i + k : Nat) ∧ i + k ≤ n ∧ s8 = .slice D zr.length e ∧ Hid (Row wr wo.heap.size S (.slice D zr.length e) zr) ∧ Hid (vz zr = (ts.drop i).take k) ∧ Hid (zr.length = k) ∧ Hid (Below wo.heap.size wo wr) ∧ Hid (∀ j t, j < k → (ts.drop i)[j]? = some t → byP p t = byP p x)) (fun s6 _ _ => n - (intOf s6).toNat)
          case atStart => exact ⟨0, [], none, 0, rfl, hin, rfl, Lib.hid (Row.nil _ _ _), Lib.hid (by simp [vz]), Lib.hid rfl, Lib.hid (Below.refl _ _), Lib.hid fun j t hj => absurd hj (Nat.not_lt_zero _)⟩
          case round =>
            obtain ⟨k, zr, D, e, rfl, hikn, rfl, HRR, HRV, hzk, HBR, HALL⟩ := hrel
            have hno : w.heap.size ≤ wo.heap.size := hns
            by_cases hl2 : i + k < n
            · obtain ⟨b', off', y, v0, v1, v2, v3, v3n, v3c, v4, v4n, v4c, v5, v5n, v5c, hbo, hy, hb2, -, hyk, hyn, c0, c1, c2, c3, c4, c5⟩ := (HR0.out.stay (.below HBR.out fun _ _ h => h) : RdF wr S (some ⟨b, off, none⟩) n c ts).nodeAt hl2
              obtain ⟨rfl, rfl⟩ : b = b' ∧ off = off' := by injection hbo with e; injection e with e1 e2; exact ⟨e1, e2⟩
              have ik2 : ((i + k : Nat) : Int) < (n : Int) := by omega
              have ik3 : (0 : Int) ≤ ((i + k : Nat) : Int) := by omega
              have hgy := HG.out y (List.mem_of_getElem? hy)
              have hso2 := HSO.out y hgy
              rw [hyk] at hso2
              have HY := Lib.hid hy
              have HYN := Lib.hid hyn
              have HC : Hid (Calls Try.prog 53 #[.string p, .string v2] wr fun e w' => e = .returned (.int .i64 (sortN (kd p) (kd v2))) ∧ wr = w') := Lib.hid ((sort53_any p v2 wr).mono fun _ _ h => ⟨h.1, h.2.symm⟩)
              have HYK := Lib.hid hyk
              clear hy hgy hyn hb2 hyk hbo
              rcases hso2 with hso2 | hso2
              · rw [hso2.1] at HC
                have HN2 : Hid ((byP p y).code (kd p) = 5) := Lib.hid hso2.2
                clear hso2
                by_cases hmm : 5 = (N : Int)
                · have hm1 : ((5 : Int) != N) = false := by simpa using hmm
                  have HXY : Hid (byP p y = byP p x) := Lib.hid (code_inj (p := kd p) (by rw [HN2.out, HN.out]; exact hmm))
                  clear hmm
                  obtain ⟨zs', hz', hZ'⟩ := (RdF.one (w := wr) (S := S) (S' := Sn wr.heap.size S) #[.int .i64 v0, .int .i64 v1, .string v2, .slice v3 v3n v3c, .slice v4 v4n v4c, .slice v5 v5n v5c] y HYN.out (fun _ _ h => .inl h) wr.heap.size rfl (.inr (Nat.le_refl _))).z
                  have hzl : zs'.length = 1 := hZ'.len
                  have hsub : ∀ b, b < (wr.alloc (.cells #[.int .i64 v0, .int .i64 v1, .string v2, .slice v3 v3n v3c, .slice v4 v4n v4c, .slice v5 v5n v5c] 31)).heap.size → Sn wr.heap.size S b → Sx wo.heap.size S (.slice D zr.length e) b := fun b _ h =>
                    sx_of (fun g hg => (HRR.out.low g hg).2) HSW.out (fun g hg => (HRR.out.low g hg).1) HBR.out.size b h
                  have hrow : Row (wr.alloc (.cells #[.int .i64 v0, .int .i64 v1, .string v2, .slice v3 v3n v3c, .slice v4 v4n v4c, .slice v5 v5n v5c] 31)) wo.heap.size S (.slice D zr.length e) zr := HRR.out.below (blAl _)
                  have HRW := Lib.hid hrow
                  have HZ1 := Lib.hid hZ'
                  have HSB := Lib.hid hsub
                  have HVZ := Lib.hid hz'
                  have hnw : wo.heap.size ≤ (wr.alloc (.cells #[.int .i64 v0, .int .i64 v1, .string v2, .slice v3 v3n v3c, .slice v4 v4n v4c, .slice v5 v5n v5c] 31)).heap.size := by rw [World.size_alloc]; exact Nat.le_trans HBR.out.size (Nat.le_succ _)
                  have HNW := Lib.hid hnw
                  clear hrow hZ' hsub hz' hnw
                  go_wp2_with (first | (at_builtin; refine wpList_rows rfl (.tmp 58) (.tmp 63) rfl rfl HRW.out rfl HZ1.out HSB.out ?len HNW.out ?_) | (go_at_call 53; refine HC.out.mono ?_; rintro e w' ⟨rfl, rfl⟩))
                  case len => have := hzk.out; rw [hzl]; omega
                  intro A' c' w1 hrow1 hg1 hat1
                  have HR1 := Lib.hid hrow1
                  have hB1 : Below wo.heap.size wo w1 := (HBR.out.alloc HBR.out.size _).trans (HRW.out.grown_below hg1 HNW.out)
                  have HB1 := Lib.hid hB1
                  clear hrow1 hg1 hat1 hB1
                  have HAL2 : Hid (∀ j t, j < k + 1 → (ts.drop i)[j]? = some t → byP p t = byP p x) := Lib.hid fun j t hj ht => by
                    rcases Nat.lt_or_ge j k with h | h
                    · exact HALL.out j t h ht
                    · obtain rfl : j = k := by omega
                      rw [List.getElem?_drop, HY.out] at ht
                      cases ht
                      exact HXY.out
                  go_wp2_with fail
                  go_roundw
                  case rel => exact ⟨k + 1, zr ++ zs', A', c', by go_num, by omega, by rw [List.length_append, hzl], Lib.hid (by rw [List.length_append, hzl]; exact HR1.out), Lib.hid (by
                    rw [vz_append, HRV.out, HVZ.out, take_at HY.out]), Lib.hid (by rw [List.length_append, hzl, hzk.out]), HB1, HAL2⟩
                  case measure => simp [intOf]; omega
                · have hm1 : ((5 : Int) != N) = true := by simpa using hmm
                  have hk1 : 1 ≤ k := by
                    rcases Nat.eq_zero_or_pos k with h | h
                    · subst h
                      have h2 := HY.out
                      rw [Nat.add_zero, HX.out] at h2
                      cases h2
                      exact absurd (HN2.out.symm.trans HN.out) hmm
                    · exact h
                  have HF : Hid (fitT (kd p) (ts.drop i) = wrapT (kd p) (byP p x) ((ts.drop i).take k) ++ fitT (kd p) (ts.drop (i + k))) := Lib.hid (by
                    have := fitT_run (p := kd p) (s := byP p x) (l := ts.drop i) hk1 HALL.out (by rw [List.length_drop, HTL.out]; omega) (.inr ⟨y, by rw [List.getElem?_drop]; exact HY.out, fun e => hmm (by rw [← HN2.out, ← HN.out]; exact congrArg _ e)⟩)
                    rwa [List.drop_drop] at this)
                  clear hmm
                  obtain ⟨t, htt, hcw⟩ := HW.out wr (fun b => Sn wo.heap.size S b ∧ b < wr.heap.size) (byP p x) D zr.length e ((ts.drop i).take k) HST.out (by
                      intro e
                      have := congrArg List.length e
                      rw [List.length_take, List.length_drop, HTL.out] at this
                      simp at this
                      omega) (fun t ht => HG.out t (List.mem_of_mem_drop (List.mem_of_mem_take ht))) (by have := hzk.out; omega) (fun b h => h.2) (by
                      rw [← HRV.out]
                      exact HRR.out.rd fun b hb h => ⟨h, hb⟩)
                  simp only [HN.out] at hcw
                  have HTT := Lib.hid htt
                  have HCW := Lib.hid hcw
                  clear htt hcw
                  go_wp2_with (first | (go_at_call 53; refine HC.out.mono ?_; rintro e w' ⟨rfl, rfl⟩))
                  refine HCW.out.mono ?_
                  rintro e w2 ⟨v, rfl, hv, hB2⟩
                  obtain ⟨q0, q1, q2, q3, q3n, q3c, q4, q4n, q4c, q5, q5n, q5c, qa, qt, qk, hue, -⟩ := hv.parts
                  have hue2 : v = #[.int .i64 q0, .int .i64 q1, .string q2, .slice q3 q3n q3c, .slice q4 q4n q4c, .slice q5 q5n q5c] := by rw [← Array.toArray_toList (xs := v), hue]
                  subst hue2
                  clear hue
                  have hB3 : Below wo.heap.size wo w2 := HBR.out.trans (hB2.mono HBR.out.size)
                  obtain ⟨zs', hz', hZ'⟩ := (RdF.one (w := w2) (S := Sn wr.heap.size (fun b => Sn wo.heap.size S b ∧ b < wr.heap.size)) (S' := Sn wo.heap.size S) #[.int .i64 q0, .int .i64 q1, .string q2, .slice q3 q3n q3c, .slice q4 q4n q4c, .slice q5 q5n q5c] t hv (fun b _ h => h.elim (fun h => h.1) (fun h => .inr (Nat.le_trans HBR.out.size h))) w2.heap.size rfl (.inr hB3.size)).z
                  have hzl : zs'.length = 1 := hZ'.len
                  have hsub : ∀ b, b < (w2.alloc (.cells #[.int .i64 q0, .int .i64 q1, .string q2, .slice q3 q3n q3c, .slice q4 q4n q4c, .slice q5 q5n q5c] 31)).heap.size → Sn wo.heap.size S b → Sx w.heap.size S (.slice B zs.length d) b := fun b _ h =>
                    sx_of (fun g hg => (HROW.out.low g hg).2) HS.out (fun g hg => (HROW.out.low g hg).1) hno b h
                  have hB4 : Below wo.heap.size wo (w2.alloc (.cells #[.int .i64 q0, .int .i64 q1, .string q2, .slice q3 q3n q3c, .slice q4 q4n q4c, .slice q5 q5n q5c] 31)) := hB3.alloc hB3.size _
                  have hrow : Row (w2.alloc (.cells #[.int .i64 q0, .int .i64 q1, .string q2, .slice q3 q3n q3c, .slice q4 q4n q4c, .slice q5 q5n q5c] 31)) w.heap.size S (.slice B zs.length d) zs := HROW.out.below hB4
                  have HRW := Lib.hid hrow
                  have HZ1 := Lib.hid hZ'
                  have HSB := Lib.hid hsub
                  have HVZ := Lib.hid hz'
                  have HB4 := Lib.hid hB4
                  have hnw : w.heap.size ≤ (w2.alloc (.cells #[.int .i64 q0, .int .i64 q1, .string q2, .slice q3 q3n q3c, .slice q4 q4n q4c, .slice q5 q5n q5c] 31)).heap.size := Nat.le_trans hno hB4.size
                  have HNW := Lib.hid hnw
                  clear hrow hZ' hsub hz' hnw hB3 hB4 hB2 hv
                  go_wp2_with (at_builtin; refine wpList_rows rfl (.tmp 67) (.tmp 72) rfl rfl HRW.out rfl HZ1.out HSB.out ?len HNW.out ?_)
                  case len => rw [hzl]; omega
                  intro A' c' w5 hrow1 hg1 hat1
                  have HR1 := Lib.hid hrow1
                  have hB1 : Below w.heap.size w w5 := HB.out.trans ((HB4.out.mono hno).trans (HRW.out.grown_below hg1 HNW.out))
                  have HB1 := Lib.hid hB1
                  clear hrow1 hg1 hat1 hB1
                  go_wp2_with fail
                  go_roundw
                  case rel => exact ⟨i + k, zs ++ zs', A', c', by first | rfl | rw [hkn], hikn, by rw [List.length_append, hzl], Lib.hid (by rw [List.length_append, hzl]; exact HR1.out), Lib.hid (by
                    rw [← HEQ.out, HF.out, HTT.out, vz_append, HVZ.out]; simp), HB1, by rw [List.length_append, hzl]; omega⟩
                  case measure => simp [intOf]; omega
              · generalize sortN (kd p) (kd v2) = N2 at *
                have HN2 : Hid ((byP p y).code (kd p) = N2) := Lib.hid hso2.2.symm
                have n22 : (N2 == 2) = false := by simpa using hso2.1
                clear hso2
                by_cases hmm : N2 = (N : Int)
                · have hm1 : ((N2 : Int) != N) = false := by simpa using hmm
                  have HXY : Hid (byP p y = byP p x) := Lib.hid (code_inj (p := kd p) (by rw [HN2.out, HN.out]; exact hmm))
                  clear hmm
                  obtain ⟨zs', hz', hZ'⟩ := (RdF.one (w := wr) (S := S) (S' := Sn wr.heap.size S) #[.int .i64 v0, .int .i64 v1, .string v2, .slice v3 v3n v3c, .slice v4 v4n v4c, .slice v5 v5n v5c] y HYN.out (fun _ _ h => .inl h) wr.heap.size rfl (.inr (Nat.le_refl _))).z
                  have hzl : zs'.length = 1 := hZ'.len
                  have hsub : ∀ b, b < (wr.alloc (.cells #[.int .i64 v0, .int .i64 v1, .string v2, .slice v3 v3n v3c, .slice v4 v4n v4c, .slice v5 v5n v5c] 31)).heap.size → Sn wr.heap.size S b → Sx wo.heap.size S (.slice D zr.length e) b := fun b _ h =>
                    sx_of (fun g hg => (HRR.out.low g hg).2) HSW.out (fun g hg => (HRR.out.low g hg).1) HBR.out.size b h
                  have hrow : Row (wr.alloc (.cells #[.int .i64 v0, .int .i64 v1, .string v2, .slice v3 v3n v3c, .slice v4 v4n v4c, .slice v5 v5n v5c] 31)) wo.heap.size S (.slice D zr.length e) zr := HRR.out.below (blAl _)
                  have HRW := Lib.hid hrow
                  have HZ1 := Lib.hid hZ'
                  have HSB := Lib.hid hsub
                  have HVZ := Lib.hid hz'
                  have hnw : wo.heap.size ≤ (wr.alloc (.cells #[.int .i64 v0, .int .i64 v1, .string v2, .slice v3 v3n v3c, .slice v4 v4n v4c, .slice v5 v5n v5c] 31)).heap.size := by rw [World.size_alloc]; exact Nat.le_trans HBR.out.size (Nat.le_succ _)
                  have HNW := Lib.hid hnw
                  clear hrow hZ' hsub hz' hnw
                  go_wp2_with (first | (at_builtin; refine wpList_rows rfl (.tmp 58) (.tmp 63) rfl rfl HRW.out rfl HZ1.out HSB.out ?len HNW.out ?_) | (go_at_call 53; refine HC.out.mono ?_; rintro e w' ⟨rfl, rfl⟩))
                  case len => have := hzk.out; rw [hzl]; omega
                  intro A' c' w1 hrow1 hg1 hat1
                  have HR1 := Lib.hid hrow1
                  have hB1 : Below wo.heap.size wo w1 := (HBR.out.alloc HBR.out.size _).trans (HRW.out.grown_below hg1 HNW.out)
                  have HB1 := Lib.hid hB1
                  clear hrow1 hg1 hat1 hB1
                  have HAL2 : Hid (∀ j t, j < k + 1 → (ts.drop i)[j]? = some t → byP p t = byP p x) := Lib.hid fun j t hj ht => by
                    rcases Nat.lt_or_ge j k with h | h
                    · exact HALL.out j t h ht
                    · obtain rfl : j = k := by omega
                      rw [List.getElem?_drop, HY.out] at ht
                      cases ht
                      exact HXY.out
                  go_wp2_with fail
                  go_roundw
                  case rel => exact ⟨k + 1, zr ++ zs', A', c', by go_num, by omega, by rw [List.length_append, hzl], Lib.hid (by rw [List.length_append, hzl]; exact HR1.out), Lib.hid (by
                    rw [vz_append, HRV.out, HVZ.out, take_at HY.out]), Lib.hid (by rw [List.length_append, hzl, hzk.out]), HB1, HAL2⟩
                  case measure => simp [intOf]; omega
                · have hm1 : ((N2 : Int) != N) = true := by simpa using hmm
                  have hk1 : 1 ≤ k := by
                    rcases Nat.eq_zero_or_pos k with h | h
                    · subst h
                      have h2 := HY.out
                      rw [Nat.add_zero, HX.out] at h2
                      cases h2
                      exact absurd (HN2.out.symm.trans HN.out) hmm
                    · exact h
                  have HF : Hid (fitT (kd p) (ts.drop i) = wrapT (kd p) (byP p x) ((ts.drop i).take k) ++ fitT (kd p) (ts.drop (i + k))) := Lib.hid (by
                    have := fitT_run (p := kd p) (s := byP p x) (l := ts.drop i) hk1 HALL.out (by rw [List.length_drop, HTL.out]; omega) (.inr ⟨y, by rw [List.getElem?_drop]; exact HY.out, fun e => hmm (by rw [← HN2.out, ← HN.out]; exact congrArg _ e)⟩)
                    rwa [List.drop_drop] at this)
                  clear hmm
                  obtain ⟨t, htt, hcw⟩ := HW.out wr (fun b => Sn wo.heap.size S b ∧ b < wr.heap.size) (byP p x) D zr.length e ((ts.drop i).take k) HST.out (by
                      intro e
                      have := congrArg List.length e
                      rw [List.length_take, List.length_drop, HTL.out] at this
                      simp at this
                      omega) (fun t ht => HG.out t (List.mem_of_mem_drop (List.mem_of_mem_take ht))) (by have := hzk.out; omega) (fun b h => h.2) (by
                      rw [← HRV.out]
                      exact HRR.out.rd fun b hb h => ⟨h, hb⟩)
                  simp only [HN.out] at hcw
                  have HTT := Lib.hid htt
                  have HCW := Lib.hid hcw
                  clear htt hcw
                  go_wp2_with (first | (go_at_call 53; refine HC.out.mono ?_; rintro e w' ⟨rfl, rfl⟩))
                  refine HCW.out.mono ?_
                  rintro e w2 ⟨v, rfl, hv, hB2⟩
                  obtain ⟨q0, q1, q2, q3, q3n, q3c, q4, q4n, q4c, q5, q5n, q5c, qa, qt, qk, hue, -⟩ := hv.parts
                  have hue2 : v = #[.int .i64 q0, .int .i64 q1, .string q2, .slice q3 q3n q3c, .slice q4 q4n q4c, .slice q5 q5n q5c] := by rw [← Array.toArray_toList (xs := v), hue]
                  subst hue2
                  clear hue
                  have hB3 : Below wo.heap.size wo w2 := HBR.out.trans (hB2.mono HBR.out.size)
                  obtain ⟨zs', hz', hZ'⟩ := (RdF.one (w := w2) (S := Sn wr.heap.size (fun b => Sn wo.heap.size S b ∧ b < wr.heap.size)) (S' := Sn wo.heap.size S) #[.int .i64 q0, .int .i64 q1, .string q2, .slice q3 q3n q3c, .slice q4 q4n q4c, .slice q5 q5n q5c] t hv (fun b _ h => h.elim (fun h => h.1) (fun h => .inr (Nat.le_trans HBR.out.size h))) w2.heap.size rfl (.inr hB3.size)).z
                  have hzl : zs'.length = 1 := hZ'.len
                  have hsub : ∀ b, b < (w2.alloc (.cells #[.int .i64 q0, .int .i64 q1, .string q2, .slice q3 q3n q3c, .slice q4 q4n q4c, .slice q5 q5n q5c] 31)).heap.size → Sn wo.heap.size S b → Sx w.heap.size S (.slice B zs.length d) b := fun b _ h =>
                    sx_of (fun g hg => (HROW.out.low g hg).2) HS.out (fun g hg => (HROW.out.low g hg).1) hno b h
                  have hB4 : Below wo.heap.size wo (w2.alloc (.cells #[.int .i64 q0, .int .i64 q1, .string q2, .slice q3 q3n q3c, .slice q4 q4n q4c, .slice q5 q5n q5c] 31)) := hB3.alloc hB3.size _
                  have hrow : Row (w2.alloc (.cells #[.int .i64 q0, .int .i64 q1, .string q2, .slice q3 q3n q3c, .slice q4 q4n q4c, .slice q5 q5n q5c] 31)) w.heap.size S (.slice B zs.length d) zs := HROW.out.below hB4
                  have HRW := Lib.hid hrow
                  have HZ1 := Lib.hid hZ'
                  have HSB := Lib.hid hsub
                  have HVZ := Lib.hid hz'
                  have HB4 := Lib.hid hB4
                  have hnw : w.heap.size ≤ (w2.alloc (.cells #[.int .i64 q0, .int .i64 q1, .string q2, .slice q3 q3n q3c, .slice q4 q4n q4c, .slice q5 q5n q5c] 31)).heap.size := Nat.le_trans hno hB4.size
                  have HNW := Lib.hid hnw
                  clear hrow hZ' hsub hz' hnw hB3 hB4 hB2 hv
                  go_wp2_with (at_builtin; refine wpList_rows rfl (.tmp 67) (.tmp 72) rfl rfl HRW.out rfl HZ1.out HSB.out ?len HNW.out ?_)
                  case len => rw [hzl]; omega
                  intro A' c' w5 hrow1 hg1 hat1
                  have HR1 := Lib.hid hrow1
                  have hB1 : Below w.heap.size w w5 := HB.out.trans ((HB4.out.mono hno).trans (HRW.out.grown_below hg1 HNW.out))
                  have HB1 := Lib.hid hB1
                  clear hrow1 hg1 hat1 hB1
                  go_wp2_with fail
                  go_roundw
                  case rel => exact ⟨i + k, zs ++ zs', A', c', by first | rfl | rw [hkn], hikn, by rw [List.length_append, hzl], Lib.hid (by rw [List.length_append, hzl]; exact HR1.out), Lib.hid (by
                    rw [← HEQ.out, HF.out, HTT.out, vz_append, HVZ.out]; simp), HB1, by rw [List.length_append, hzl]; omega⟩
                  case measure => simp [intOf]; omega
            · have hkn : i + k = n := by omega
              have hk1 : 1 ≤ k := by omega
              have ik2 : ¬ ((i + k : Nat) : Int) < (n : Int) := by omega
              have HF : Hid (fitT (kd p) (ts.drop i) = wrapT (kd p) (byP p x) ((ts.drop i).take k) ++ fitT (kd p) (ts.drop (i + k))) := Lib.hid (by
                have := fitT_run (p := kd p) (s := byP p x) (l := ts.drop i) hk1 HALL.out (by rw [List.length_drop, HTL.out]; omega) (.inl (by rw [List.length_drop, HTL.out]; omega))
                rwa [List.drop_drop] at this)
              obtain ⟨t, htt, hcw⟩ := HW.out wr (fun b => Sn wo.heap.size S b ∧ b < wr.heap.size) (byP p x) D zr.length e ((ts.drop i).take k) HST.out (by
                  intro e
                  have := congrArg List.length e
                  rw [List.length_take, List.length_drop, HTL.out] at this
                  simp at this
                  omega) (fun t ht => HG.out t (List.mem_of_mem_drop (List.mem_of_mem_take ht))) (by have := hzk.out; omega) (fun b h => h.2) (by
                  rw [← HRV.out]
                  exact HRR.out.rd fun b hb h => ⟨h, hb⟩)
              simp only [HN.out] at hcw
              have HTT := Lib.hid htt
              have HCW := Lib.hid hcw
              clear htt hcw
              go_wp2_with (first | (go_at_call 53; refine HC.out.mono ?_; rintro e w' ⟨rfl, rfl⟩))
              refine HCW.out.mono ?_
              rintro e w2 ⟨v, rfl, hv, hB2⟩
              obtain ⟨q0, q1, q2, q3, q3n, q3c, q4, q4n, q4c, q5, q5n, q5c, qa, qt, qk, hue, -⟩ := hv.parts
              have hue2 : v = #[.int .i64 q0, .int .i64 q1, .string q2, .slice q3 q3n q3c, .slice q4 q4n q4c, .slice q5 q5n q5c] := by rw [← Array.toArray_toList (xs := v), hue]
              subst hue2
              clear hue
              have hB3 : Below wo.heap.size wo w2 := HBR.out.trans (hB2.mono HBR.out.size)
              obtain ⟨zs', hz', hZ'⟩ := (RdF.one (w := w2) (S := Sn wr.heap.size (fun b => Sn wo.heap.size S b ∧ b < wr.heap.size)) (S' := Sn wo.heap.size S) #[.int .i64 q0, .int .i64 q1, .string q2, .slice q3 q3n q3c, .slice q4 q4n q4c, .slice q5 q5n q5c] t hv (fun b _ h => h.elim (fun h => h.1) (fun h => .inr (Nat.le_trans HBR.out.size h))) w2.heap.size rfl (.inr hB3.size)).z
              have hzl : zs'.length = 1 := hZ'.len
              have hsub : ∀ b, b < (w2.alloc (.cells #[.int .i64 q0, .int .i64 q1, .string q2, .slice q3 q3n q3c, .slice q4 q4n q4c, .slice q5 q5n q5c] 31)).heap.size → Sn wo.heap.size S b → Sx w.heap.size S (.slice B zs.length d) b := fun b _ h =>
                sx_of (fun g hg => (HROW.out.low g hg).2) HS.out (fun g hg => (HROW.out.low g hg).1) hno b h
              have hB4 : Below wo.heap.size wo (w2.alloc (.cells #[.int .i64 q0, .int .i64 q1, .string q2, .slice q3 q3n q3c, .slice q4 q4n q4c, .slice q5 q5n q5c] 31)) := hB3.alloc hB3.size _
              have hrow : Row (w2.alloc (.cells #[.int .i64 q0, .int .i64 q1, .string q2, .slice q3 q3n q3c, .slice q4 q4n q4c, .slice q5 q5n q5c] 31)) w.heap.size S (.slice B zs.length d) zs := HROW.out.below hB4
              have HRW := Lib.hid hrow
              have HZ1 := Lib.hid hZ'
              have HSB := Lib.hid hsub
              have HVZ := Lib.hid hz'
              have HB4 := Lib.hid hB4
              have hnw : w.heap.size ≤ (w2.alloc (.cells #[.int .i64 q0, .int .i64 q1, .string q2, .slice q3 q3n q3c, .slice q4 q4n q4c, .slice q5 q5n q5c] 31)).heap.size := Nat.le_trans hno hB4.size
              have HNW := Lib.hid hnw
              clear hrow hZ' hsub hz' hnw hB3 hB4 hB2 hv
              go_wp2_with (at_builtin; refine wpList_rows rfl (.tmp 67) (.tmp 72) rfl rfl HRW.out rfl HZ1.out HSB.out ?len HNW.out ?_)
              case len => rw [hzl]; omega
              intro A' c' w5 hrow1 hg1 hat1
              have HR1 := Lib.hid hrow1
              have hB1 : Below w.heap.size w w5 := HB.out.trans ((HB4.out.mono hno).trans (HRW.out.grown_below hg1 HNW.out))
              have HB1 := Lib.hid hB1
              clear hrow1 hg1 hat1 hB1
              go_wp2_with fail
              go_roundw
              case rel => exact ⟨i + k, zs ++ zs', A', c', by first | rfl | rw [hkn], hikn, by rw [List.length_append, hzl], Lib.hid (by rw [List.length_append, hzl]; exact HR1.out), Lib.hid (by
                rw [← HEQ.out, HF.out, HTT.out, vz_append, HVZ.out]; simp), HB1, by rw [List.length_append, hzl]; omega⟩
              case measure => simp [intOf]; omega
    · obtain rfl : i = n := by omega
      have HF : Hid (vz zs = fitT (kd p) ts) := Lib.hid (by
        have := HEQ.out
        rw [List.drop_of_length_le (by rw [HTL.out]; exact Nat.le_refl _)] at this
        simpa [fitT, runsBy] using this)
      go_wp2_with fail
      go_ret
      refine ⟨_, _, _, rfl, ?_, HB.out⟩
      rw [← HF.out]
      exact HROW.out.rd fun _ _ h => h

end Go.Proofs.Ytcdhndhgainadaa
