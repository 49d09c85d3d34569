/-
  The contract of TakeRuns of package column.
-/
import Derived.Test.YtokpcpopibpebaaTakeDef
import Derived.Test.YtokpcpopibpebaaOpenCol
namespace Go.Proofs.Ytokpcpopibpebaa
open Go Go.RowKit
set_option linter.unusedVariables false
set_option linter.unusedSimpArgs false

set_option maxRecDepth 100000 in
set_option maxHeartbeats 4000000 in
theorem takeruns_any (A : Option Addr) (len c : Nat) (b : List Nat) (n : Int) (hn1 : -9223372036854775808 ≤ n) (hn2 : n < 9223372036854775808) (W : World) (hR : Rd W W.heap.size 1 A len (by8 b)) (hb : ∀ x ∈ b, x < 256) (hlen : len ≤ 1000000) (hcap : len ≤ c) (hmax : c ≤ maxLen) :
    Calls Try.prog 34 #[.slice A len c, .int .i64 n] W (Answer 3 (Value.int .i64) (badN n) (takenI b n.toNat) W) := by
  by_cases h1 : n < 0
  · have e : badN n = true := by simp [badN, h1]
    rw [e]
    go_enter Try.func34, Try.ntmps34
    go_wp2_with fail
    go_ret3
    exact Answer.arg_ (Below.refl _ _)
  by_cases h2 : 65536 < n
  · have e : badN n = true := by simp [badN, h2]
    rw [e]
    go_enter Try.func34, Try.ntmps34
    go_wp2_with fail
    go_ret3
    exact Answer.arg_ (Below.refl _ _)
  have e : badN n = false := by simp [badN]; omega
  rw [e]
  obtain ⟨N, rfl⟩ : ∃ N : Nat, n = N := ⟨n.toNat, by omega⟩
  have hN : N ≤ 65536 := by omega
  have d1 : decide ((N : Int) < 0) = false := by simp
  have d2 : decide (65536 < (N : Int)) = false := by simp; omega
  rw [Int.toNat_natCast]
  have hbl : b.length = len := by have := hR.len1; rwa [by8_len] at this
  have HBL := Lib.hid hbl
  have HR := Lib.hid hR
  have HB := Lib.hid hb
  unfold maxLen at hmax
  obtain ⟨ans, hans⟩ : ∃ ans, takenI b N = ans := ⟨_, rfl⟩
  have HANS := Lib.hid hans
  rw [hans]
  clear hbl hR hb e h1 h2 hn1 hn2 hans
  go_enter Try.func34, Try.ntmps34
  go_wp2_with fail
  go_loopw [7, 8] (fun s7 s8 wr => ∃ (ps : List (Nat × Int)) (p m : Nat) (Av : Option Addr) (cv : Nat), s7 = .slice Av m cv ∧ s8 = .int .i64 p ∧ Hid (RunAt W b N ps p m Av cv wr)) (fun s7 _ _ => N - (match s7 with | .slice _ m _ => m | _ => 0))
  case atStart => exact ⟨[], 0, 0, none, 0, rfl, rfl, Lib.hid (RunAt.start W b N)⟩
  case round =>
    obtain ⟨ps, p, m, Av, cv, rfl, rfl, HA⟩ := hrel
    have hmN := HA.out.le
    by_cases hlt : m < N
    · have hp : p ≤ len := by have := HA.out.p_le; have := HBL.out; omega
      have hbs := HA.out.below.size
      obtain ⟨A1, hA1⟩ : ∃ A1, (if c = p then A else A.map (·.add p)) = A1 := ⟨_, rfl⟩
      have rd1 : Rd wr W.heap.size 1 A1 (len - p) (by8 (b.drop p)) := by
        have := (HR.out.below HA.out.below).drop1 (k := p) (c := c) hp hcap
        rw [hA1] at this
        simpa [by8, List.map_drop] using this
      have hb1 : ∀ x ∈ b.drop p, x < 256 := fun x hx => HB.out x (List.mem_of_mem_drop hx)
      have T1 := Lib.hid (fun cc => take_any (c := cc) rd1 hb1 (by unfold maxLen; omega))
      have k1 : (0 : Int) ≤ (p : Int) := by omega
      have k2 : (p : Int) ≤ (c : Int) := by omega
      have k3 : (p : Int) ≤ (len : Int) := by omega
      cases ht1 : V.take (b.drop p) with
      | none =>
        have T2 : Hid (∀ cc, Calls Try.prog 24 #[.slice A1 (len - p) cc] wr fun e w' => e = .returned (.tuple #[.int .u64 0, .int .i64 0, .int .i64 31]) ∧ wr = w') := Lib.hid fun cc => by
          have := T1.out cc
          unfold TakeRet at this
          obtain ⟨a, b, c⟩ := T_none ht1
          rw [a, b, c] at this
          exact this
        have HNO : Hid (ans = none) := Lib.hid (by rw [← HANS.out]; exact HA.out.bad hlt (pair_none1 ht1))
        have HZ := Lib.hid (zag_any 0 wr (by omega))
        clear rd1 hb1 T1 ht1
        go_wp2_with fail
        refine (T2.out _).mono ?_
        rintro e w' ⟨rfl, rfl⟩
        go_wp2_with fail
        refine (T2.out _).mono ?_
        rintro e w' ⟨rfl, rfl⟩
        go_wp2_with fail
        refine HZ.out.mono ?_
        rintro e w' ⟨rfl, rfl⟩
        go_wp2_with fail
        go_ret3
        exact Answer.none_ HNO.out HA.out.below
      | some r =>
        obtain ⟨k, i⟩ := r
        obtain ⟨hi, hk⟩ := take_le hb1 ht1
        simp only [List.length_drop, HBL.out] at hi
        have T2 : Hid (∀ cc, Calls Try.prog 24 #[.slice A1 (len - p) cc] wr fun e w' => e = .returned (.tuple #[.int .u64 (k : Int), .int .i64 (i : Int), .int .i64 0]) ∧ wr = w') := Lib.hid fun cc => by
          have := T1.out cc
          unfold TakeRet at this
          obtain ⟨a, b, c⟩ := T_some ht1
          rw [a, b, c] at this
          exact this
        have HK := Lib.hid hk
        obtain ⟨A2, hA2⟩ : ∃ A2, (if c = p + i then A else A.map (·.add (p + i))) = A2 := ⟨_, rfl⟩
        have rd2 : Rd wr W.heap.size 1 A2 (len - (p + i)) (by8 (b.drop (p + i))) := by
          have := (HR.out.below HA.out.below).drop1 (k := p + i) (c := c) (by omega) hcap
          rw [hA2] at this
          simpa [by8, List.map_drop] using this
        have hb2 : ∀ x ∈ b.drop (p + i), x < 256 := fun x hx => HB.out x (List.mem_of_mem_drop hx)
        have T3 := Lib.hid (fun cc => take_any (c := cc) rd2 hb2 (by unfold maxLen; omega))
        have k4 : (p : Int) + (i : Int) ≤ (c : Int) := by omega
        have k5 : (p : Int) + (i : Int) ≤ (len : Int) := by omega
        have k6 : (0 : Int) ≤ (p : Int) + (i : Int) := by omega
        have k7 : ((p : Int) + (i : Int)).toNat = p + i := by omega
        have hw1 : IntKind.i64.wrap ((p : Int) + (i : Int)) = (p : Int) + (i : Int) := IntWalk.i64_in _ (by omega)
        have HT1 := Lib.hid ht1
        clear rd1 hb1 T1 ht1 hk
        cases ht2 : V.take (b.drop (p + i)) with
        | none =>
          have T4 : Hid (∀ cc, Calls Try.prog 24 #[.slice A2 (len - (p + i)) cc] wr fun e w' => e = .returned (.tuple #[.int .u64 0, .int .i64 0, .int .i64 31]) ∧ wr = w') := Lib.hid fun cc => by
            have := T3.out cc
            unfold TakeRet at this
            obtain ⟨a, b, c⟩ := T_none ht2
            rw [a, b, c] at this
            exact this
          have HNO : Hid (ans = none) := Lib.hid (by rw [← HANS.out]; exact HA.out.bad hlt (pair_none2 HT1.out (by rw [List.drop_drop]; exact ht2)))
          have HZ := Lib.hid (zag_any 0 wr (by omega))
          clear rd2 hb2 T3 ht2
          go_wp2_with fail
          refine (T2.out _).mono ?_
          rintro e w' ⟨rfl, rfl⟩
          go_wp2_with fail
          refine (T4.out _).mono ?_
          rintro e w' ⟨rfl, rfl⟩
          go_wp2_with fail
          refine HZ.out.mono ?_
          rintro e w' ⟨rfl, rfl⟩
          go_wp2_with fail
          go_ret3
          exact Answer.none_ HNO.out HA.out.below
        | some r =>
          obtain ⟨v, j⟩ := r
          obtain ⟨hj, hv⟩ := take_le hb2 ht2
          simp only [List.length_drop, HBL.out] at hj
          have T4 : Hid (∀ cc, Calls Try.prog 24 #[.slice A2 (len - (p + i)) cc] wr fun e w' => e = .returned (.tuple #[.int .u64 (v : Int), .int .i64 (j : Int), .int .i64 0]) ∧ wr = w') := Lib.hid fun cc => by
            have := T3.out cc
            unfold TakeRet at this
            obtain ⟨a, b, c⟩ := T_some ht2
            rw [a, b, c] at this
            exact this
          obtain ⟨x, hx⟩ : ∃ x, zag (v : Int) = x := ⟨_, rfl⟩
          have hz := zag_any v wr hv
          rw [hx] at hz
          have HZ := Lib.hid hz
          have hpr : pair (b.drop p) = some (k, x, i + j) := by rw [← hx]; exact pair_both HT1.out (by rw [List.drop_drop]; exact ht2)
          have HPR := Lib.hid hpr
          have hsub : IntKind.u64.wrap ((N : Int) - (m : Int)) = ((N - m : Nat) : Int) := by rw [u64_wrap_of _ (by omega) (by omega)]; omega
          clear rd2 hb2 T3 ht2 hz hpr hx hv HT1
          by_cases hk0 : k = 0
          · subst hk0
            have HNO : Hid (ans = none) := Lib.hid (by rw [← HANS.out]; exact HA.out.bad2 hlt HPR.out (.inl rfl))
            go_wp2_with fail
            refine (T2.out _).mono ?_
            rintro e w' ⟨rfl, rfl⟩
            go_wp2_with fail
            refine (T4.out _).mono ?_
            rintro e w' ⟨rfl, rfl⟩
            go_wp2_with fail
            refine HZ.out.mono ?_
            rintro e w' ⟨rfl, rfl⟩
            go_wp2_with fail
            go_ret3
            exact Answer.none_ HNO.out HA.out.below
          have gk0 : ((k : Int) == 0) = false := by simpa using (by omega : ¬ (k : Int) = 0)
          by_cases hkl : N - m < k
          · have HNO : Hid (ans = none) := Lib.hid (by rw [← HANS.out]; exact HA.out.bad2 hlt HPR.out (.inr (.inl hkl)))
            clear hk0
            go_wp2_with fail
            refine (T2.out _).mono ?_
            rintro e w' ⟨rfl, rfl⟩
            go_wp2_with fail
            refine (T4.out _).mono ?_
            rintro e w' ⟨rfl, rfl⟩
            go_wp2_with fail
            refine HZ.out.mono ?_
            rintro e w' ⟨rfl, rfl⟩
            go_wp2_with fail
            go_ret3
            exact Answer.none_ HNO.out HA.out.below
          have gkl : decide (N - m < k) = false := by simpa using hkl
          rcases Nat.eq_zero_or_pos m with hm0 | hm0
          · subst hm0
            have hnl : expand ps = [] := List.eq_nil_of_length_eq_zero HA.out.len
            have HG : Hid (¬ (k = 0 ∨ N - 0 < k ∨ (expand ps).getLast? = some x)) := Lib.hid (by
              rintro (h | h | h)
              · exact hk0 h
              · exact hkl h
              · rw [hnl] at h; cases h)
            have hkN : k ≤ 65536 := by omega
            have hwk : IntKind.i64.wrap (k : Int) = (k : Int) := IntWalk.i64_in _ (by omega)
            have RP := Lib.hid (repI_any (some ⟨wr.heap.size, 0, none⟩) 1 x k hkN (wr.alloc (.cells #[.int .i64 x] 3)) ((rd_alloc wr #[.int .i64 x] 3 (0, 0) 1 1 rfl).more (by simp)))
            have hfit : 0 + k ≤ 65536 := by omega
            have hkl2 : k ≤ N - 0 := by omega
            have hk1 : 1 ≤ k := by omega
            clear hkl hk0 hnl
            go_wp2_with fail
            refine (T2.out _).mono ?_
            rintro e w' ⟨rfl, rfl⟩
            go_wp2_with fail
            refine (T4.out _).mono ?_
            rintro e w' ⟨rfl, rfl⟩
            go_wp2_with fail
            refine HZ.out.mono ?_
            rintro e w' ⟨rfl, rfl⟩
            go_wp2_with fail
            refine RP.out.mono ?_
            rintro e w2 ⟨A5, c5, rfl, own5, hB5⟩
            have o2 := own_heap (HA.out.own.alloc (.cells #[.int .i64 x] 3)) fun g eg => hB5.block g ((HA.out.own.alloc _).lt g eg).2
            have b2 : Below W.heap.size W w2 := (HA.out.below.alloc hbs _).trans (hB5.mono (by simp; omega))
            have O2 := Lib.hid o2
            have O5 := Lib.hid (Rd.of_own own5)
            have B2 := Lib.hid b2
            clear own5 hB5 o2 b2 RP T2 T4 HZ
            go_wp2_with (at_builtin; refine wpList_app _ rfl (.tmp 80) (.tmp 85) 38 rfl W W.heap.size 3 (.int .i64 0) 1 8 Try.underlying38 info3 rfl (by decide) _ _ _ rfl O2.out w2.heap.size A5 k c5 (List.replicate k (.int .i64 x)) rfl O5.out (fun u hu => by rw [List.eq_of_mem_replicate hu]; rfl) (by unfold maxLen; omega) (by omega) B2.out (Nat.le_refl _) ?_)
            intro A6 c6 w3 own6 hg6 hB6
            have HA3 : Hid (RunAt W b N (ps ++ [(k, x)]) (p + (i + j)) k A6 c6 w3) := Lib.hid (by have := HA.out.next HB.out hlt HPR.out HG.out (Av' := A6) (cv' := c6) (w' := w3) (by rw [Nat.zero_add]; exact own6) hB6; rwa [Nat.zero_add] at this)
            clear own6 hg6 hB6 O2 O5 B2
            go_wp2_with fail
            go_roundw
            case rel => exact ⟨ps ++ [(k, x)], p + (i + j), k, A6, c6, by rfl, by go_num, HA3⟩
            case measure => show N - k < N - 0; omega
          · obtain ⟨q, rfl⟩ : ∃ q, m = q + 1 := ⟨m - 1, by omega⟩
            obtain ⟨y, hy⟩ : ∃ y, (expand ps)[q]? = some y := ⟨_, List.getElem?_eq_getElem (by rw [HA.out.len]; omega)⟩
            have hly : (expand ps).getLast? = some y := by rw [List.getLast?_eq_getElem?, HA.out.len]; exact hy
            obtain ⟨g, rfl, hg1, hg2⟩ := own_addr HA.out.own (Nat.succ_pos q)
            have cq : wr.cell? ⟨g, q, none⟩ = some (.int .i64 y) := (HA.out.own.cellAt q (by omega)).trans (i64s_at hy)
            have q1 : (0 : Int) ≤ (q : Int) := by omega
            have q2 : (q : Int) < (q : Int) + 1 := by omega
            have hwq : IntKind.i64.wrap (q : Int) = (q : Int) := IntWalk.i64_in _ (by omega)
            have HLY := Lib.hid hly
            clear hy hly
            by_cases hyx : y = x
            · subst hyx
              have HNO : Hid (ans = none) := Lib.hid (by rw [← HANS.out]; exact HA.out.bad2 hlt HPR.out (.inr (.inr HLY.out)))
              have gyy : (y == y) = true := by simp
              clear hk0 hkl
              go_wp2_with fail
              refine (T2.out _).mono ?_
              rintro e w' ⟨rfl, rfl⟩
              go_wp2_with fail
              refine (T4.out _).mono ?_
              rintro e w' ⟨rfl, rfl⟩
              go_wp2_with fail
              refine HZ.out.mono ?_
              rintro e w' ⟨rfl, rfl⟩
              go_wp2_with fail
              all_goals
                go_ret3
                exact Answer.none_ HNO.out HA.out.below
            · have gyx : (y == x) = false := by simpa using hyx
              have HG : Hid (¬ (k = 0 ∨ N - (q + 1) < k ∨ (expand ps).getLast? = some x)) := Lib.hid (by
                rintro (h | h | h)
                · exact hk0 h
                · exact hkl h
                · rw [HLY.out] at h; injection h with h; exact hyx h)
              have hkN : k ≤ 65536 := by omega
              have hwk : IntKind.i64.wrap (k : Int) = (k : Int) := IntWalk.i64_in _ (by omega)
              have RP := Lib.hid (repI_any (some ⟨wr.heap.size, 0, none⟩) 1 x k hkN (wr.alloc (.cells #[.int .i64 x] 3)) ((rd_alloc wr #[.int .i64 x] 3 (0, 0) 1 1 rfl).more (by simp)))
              have hfit : (q + 1) + k ≤ 65536 := by omega
              have hkl2 : k ≤ N - (q + 1) := by omega
              have hk1 : 1 ≤ k := by omega
              clear hkl hk0 
              go_wp2_with fail
              refine (T2.out _).mono ?_
              rintro e w' ⟨rfl, rfl⟩
              go_wp2_with fail
              refine (T4.out _).mono ?_
              rintro e w' ⟨rfl, rfl⟩
              go_wp2_with fail
              refine HZ.out.mono ?_
              rintro e w' ⟨rfl, rfl⟩
              go_wp2_with fail
              refine RP.out.mono ?_
              rintro e w2 ⟨A5, c5, rfl, own5, hB5⟩
              have o2 := own_heap (HA.out.own.alloc (.cells #[.int .i64 x] 3)) fun g eg => hB5.block g ((HA.out.own.alloc _).lt g eg).2
              have b2 : Below W.heap.size W w2 := (HA.out.below.alloc hbs _).trans (hB5.mono (by simp; omega))
              have O2 := Lib.hid o2
              have O5 := Lib.hid (Rd.of_own own5)
              have B2 := Lib.hid b2
              clear own5 hB5 o2 b2 RP T2 T4 HZ
              go_wp2_with (at_builtin; refine wpList_app _ rfl (.tmp 80) (.tmp 85) 38 rfl W W.heap.size 3 (.int .i64 0) 1 8 Try.underlying38 info3 rfl (by decide) _ _ _ rfl O2.out w2.heap.size A5 k c5 (List.replicate k (.int .i64 x)) rfl O5.out (fun u hu => by rw [List.eq_of_mem_replicate hu]; rfl) (by unfold maxLen; omega) (by omega) B2.out (Nat.le_refl _) ?_)
              intro A6 c6 w3 own6 hg6 hB6
              have HA3 : Hid (RunAt W b N (ps ++ [(k, x)]) (p + (i + j)) ((q + 1) + k) A6 c6 w3) := Lib.hid (HA.out.next HB.out hlt HPR.out HG.out own6 hB6)
              clear own6 hg6 hB6 O2 O5 B2
              go_wp2_with fail
              go_roundw
              case rel => exact ⟨ps ++ [(k, x)], p + (i + j), (q + 1) + k, A6, c6, by rfl, by go_num, HA3⟩
              case measure => show N - (q + 1 + k) < N - (q + 1); omega
    · obtain rfl : m = N := by omega
      have HYES : Hid (ans = some (expand ps, p)) := Lib.hid (by rw [← HANS.out]; exact HA.out.done rfl)
      go_wp2_with fail
      go_ret3
      exact Answer.some_ HYES.out HA.out.len rfl HA.out.below HA.out.own
end Go.Proofs.Ytokpcpopibpebaa
