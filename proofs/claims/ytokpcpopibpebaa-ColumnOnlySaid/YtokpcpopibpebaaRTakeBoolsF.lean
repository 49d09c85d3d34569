/-
  The contract of the reference's TakeBools.
-/
import Derived.Test.YtokpcpopibpebaaTakeBoolsF
namespace Go.Proofs.Ytokpcpopibpebaa
open Go Go.RowKit
set_option linter.unusedVariables false
set_option linter.unusedSimpArgs false

set_option maxRecDepth 100000 in
set_option maxHeartbeats 4000000 in
theorem rtakebools_any (A : Option Addr) (len c : Nat) (b : List Nat) (n : Int) (hn1 : -9223372036854775808 ≤ n) (hn2 : n < 9223372036854775808) (W : World) (hR : Rd W W.heap.size 1 A len (by8 b)) (hb : ∀ x ∈ b, x < 256) (hlen : len ≤ 1000000) (hcap : len ≤ c) (hmax : c ≤ maxLen) :
    Calls Try.prog 39 #[.slice A len c, .int .i64 n] W (Answer 4 Value.bool (badN n) (takenB b n.toNat) W) := by
  by_cases h1 : n < 0
  · have e : badN n = true := by simp [badN, h1]
    rw [e]
    go_enter Try.func39, Try.ntmps39
    go_wp2_with fail
    go_ret3
    exact Answer.arg_ (Below.refl _ _)
  by_cases h2 : 65536 < n
  · have e : badN n = true := by simp [badN, h2]
    rw [e]
    go_enter Try.func39, Try.ntmps39
    go_wp2_with fail
    go_ret3
    exact Answer.arg_ (Below.refl _ _)
  have e : badN n = false := by simp [badN]; omega
  rw [e]
  obtain ⟨N, rfl⟩ : ∃ N : Nat, n = N := ⟨n.toNat, by omega⟩
  have hN : N ≤ 65536 := by omega
  have d1 : decide ((N : Int) < 0) = false := by simp
  have d2 : decide (65536 < (N : Int)) = false := by simp; omega
  rw [Int.toNat_natCast]
  have hbl : b.length = len := by have := hR.len1; rwa [by8_len] at this
  have HBL := Lib.hid hbl
  have HR := Lib.hid hR
  have HB := Lib.hid hb
  unfold maxLen at hmax
  obtain ⟨ans, hans⟩ : ∃ ans, takenB b N = ans := ⟨_, rfl⟩
  have HANS := Lib.hid hans
  rw [hans]
  clear hbl hR hb e h1 h2 hn1 hn2 hans
  go_enter Try.func39, Try.ntmps39
  go_wp2_with fail
  go_loopw [7, 8, 9] (fun s7 s8 s9 wr => ∃ (ks : List Nat) (p m : Nat) (v : Bool) (Av : Option Addr) (cv : Nat), s7 = .slice Av m cv ∧ s8 = .int .i64 p ∧ s9 = .bool v ∧ Hid (BAt W b N ks p m v Av cv wr)) (fun s7 s8 _ _ => 2 * (N - (match s7 with | .slice _ m _ => m | _ => 0)) + (if (intOf s8).toNat = 0 then 1 else 0))
  case atStart => exact ⟨[], 0, 0, false, none, 0, rfl, rfl, rfl, Lib.hid (BAt.start W b N)⟩
  case round =>
    obtain ⟨ks, p, m, v, Av, cv, rfl, rfl, rfl, HA⟩ := hrel
    have hmN := HA.out.le
    by_cases hlt : m < N
    · have hp : p ≤ len := by have := HA.out.p_le; have := HBL.out; omega
      have hbs := HA.out.below.size
      obtain ⟨A1, hA1⟩ : ∃ A1, (if c = p then A else A.map (·.add p)) = A1 := ⟨_, rfl⟩
      have rd1 : ∀ w, Below W.heap.size W w → Rd w W.heap.size 1 A1 (len - p) (by8 (b.drop p)) := fun w hw => by
        have := (HR.out.below hw).drop1 (k := p) (c := c) hp hcap
        rw [hA1] at this
        simpa [by8, List.map_drop] using this
      have hb1 : ∀ x ∈ b.drop p, x < 256 := fun x hx => HB.out x (List.mem_of_mem_drop hx)
      have T1 := Lib.hid (fun cc w (hw : Below W.heap.size W w) (hcc : len - p ≤ cc) => rtake_any (c := cc) (rd1 w hw) hb1 (by unfold maxLen; omega) hcc hw.size)
      have k1 : (0 : Int) ≤ (p : Int) := by omega
      have k2 : (p : Int) ≤ (c : Int) := by omega
      have k3 : (p : Int) ≤ (len : Int) := by omega
      cases ht1 : V.take (b.drop p) with
      | none =>
        have T2 : Hid (∀ cc w, Below W.heap.size W w → len - p ≤ cc → Calls Try.prog 25 #[.slice A1 (len - p) cc] w fun e w' => e = .returned (.tuple #[.int .u64 0, .int .i64 0, .int .i64 31]) ∧ Below w.heap.size w w') := Lib.hid fun cc w hw hcc => by
          have := T1.out cc w hw hcc
          unfold RTakeRet at this
          obtain ⟨a, b, c⟩ := T_none ht1
          rw [a, b, c] at this
          exact this
        have HNO : Hid (ans = none) := Lib.hid (by rw [← HANS.out]; exact HA.out.bad hlt ht1)
        clear rd1 hb1 T1 ht1
        go_wp2_with fail
        refine (T2.out _ _ HA.out.below (by omega)).mono ?_
        rintro e w1 ⟨rfl, hB1⟩
        have X1 := Lib.hid (HA.out.below.trans (hB1.mono hbs))
        clear hB1
        go_wp2_with fail
        go_ret3
        exact Answer.none_ HNO.out X1.out
      | some r =>
        obtain ⟨k, i⟩ := r
        obtain ⟨hi, hk⟩ := take_le hb1 ht1
        simp only [List.length_drop, HBL.out] at hi
        have T2 : Hid (∀ cc w, Below W.heap.size W w → len - p ≤ cc → Calls Try.prog 25 #[.slice A1 (len - p) cc] w fun e w' => e = .returned (.tuple #[.int .u64 (k : Int), .int .i64 (i : Int), .int .i64 0]) ∧ Below w.heap.size w w') := Lib.hid fun cc w hw hcc => by
          have := T1.out cc w hw hcc
          unfold RTakeRet at this
          obtain ⟨a, b, c⟩ := T_some ht1
          rw [a, b, c] at this
          exact this
        have hw1 : IntKind.i64.wrap ((p : Int) + (i : Int)) = (p : Int) + (i : Int) := IntWalk.i64_in _ (by omega)
        have hsub : IntKind.u64.wrap ((N : Int) - (m : Int)) = ((N - m : Nat) : Int) := by rw [u64_wrap_of _ (by omega) (by omega)]; omega
        have HT1 := Lib.hid ht1
        clear rd1 hb1 T1 ht1 hk
        go_wp2_with fail
        refine (T2.out _ _ HA.out.below (by omega)).mono ?_
        rintro e w1 ⟨rfl, hB1⟩
        have X1 := Lib.hid (HA.out.below.trans (hB1.mono hbs))
        have o1 := Lib.hid (own_heap HA.out.own fun g eg => hB1.block g (HA.out.own.lt g eg).2)
        clear hB1 T2
        by_cases hkl : N - m < k
        · have HNO : Hid (ans = none) := Lib.hid (by rw [← HANS.out]; exact HA.out.bad2 hlt HT1.out (.inr hkl))
          go_wp2_with fail
          go_ret3
          exact Answer.none_ HNO.out X1.out
        have gkl : decide (N - m < k) = false := by simpa using hkl
        have hkN : m + k ≤ 65536 := by omega
        have hkN2 : k ≤ N - m := by omega
        by_cases hbad : k = 0 ∧ ¬ p = 0
        · obtain ⟨hk0, hp0⟩ := hbad
          have HNO : Hid (ans = none) := Lib.hid (by rw [← HANS.out]; exact HA.out.bad2 hlt HT1.out (.inl ⟨hk0, hp0⟩))
          have gk0 : ((k : Int) == 0) = true := by simpa using (by omega : (k : Int) = 0)
          have gp : (0 : Int) < (p : Int) := by omega
          have gp2 : 0 < p := by omega
          clear hk0 hp0 hkl
          go_wp2_with fail
          go_ret3
          exact Answer.none_ HNO.out X1.out
        have HG : Hid (¬ ((k = 0 ∧ ¬ p = 0) ∨ N - m < k)) := Lib.hid (by omega)
        have hgg : ((k : Int) == 0) = false ∨ (((k : Int) == 0) = true ∧ decide ((0 : Int) < (p : Int)) = false ∧ decide (0 < p) = false) := by
          by_cases hk0 : k = 0
          · right; refine ⟨by simpa using (by omega : (k : Int) = 0), ?_, ?_⟩
            · simp; omega
            · simp; omega
          · left; simpa using (by omega : ¬ (k : Int) = 0)
        clear hkl hbad
        have hmeas : Hid (1 ≤ i → 2 * (N - (m + k)) + (if ((p : Int) + (i : Int)).toNat = 0 then 1 else 0) < 2 * (N - m) + (if ((p : Int)).toNat = 0 then 1 else 0)) := Lib.hid fun hi1 => by
          have hx := HG.out
          by_cases hk0 : k = 0
          · exact meas0 (by omega) hi1 hlt
          · exact meas1 (by omega) hkN2 hi1
        obtain ⟨wo, rfl⟩ : ∃ wo : World, wo = wr := ⟨_, rfl⟩
        rcases hgg with gk0 | ⟨gk0, gp1, gp2⟩
        all_goals
          go_wp2_with fail
          go_loopw [7, 13] (fun s7 s13 wr => ∃ (q : Nat) (Aq : Option Addr) (cq : Nat), s7 = .slice Aq (m + q) cq ∧ s13 = .int .u64 q ∧ q ≤ k ∧ Hid (wr.ownsRow W.heap.size 4 1 (.slice Aq (m + q) cq) (m + q) (bls (expandB false ks) ++ List.replicate q (Value.bool v))) ∧ Hid (Below W.heap.size W wr)) (fun _ s13 _ => k - (intOf s13).toNat)
          case atStart => exact ⟨0, Av, cv, rfl, rfl, Nat.zero_le _, Lib.hid (by simpa using o1.out), X1⟩
          case round =>
            obtain ⟨q, Aq, cq, rfl, rfl, hq, OQ, BQ⟩ := hrel
            by_cases hqk : q < k
            · have hwq : IntKind.u64.wrap ((q : Int) + 1) = (q : Int) + 1 := u64_wrap_of _ (by omega) (by omega)
              go_wp2_with (at_builtin; refine wpList_app1 _ rfl (.tmp 56) (.tmp 58) 39 rfl W W.heap.size 4 (.bool false) 1 Try.underlying39 info4 rfl wr (.bool v) rfl rfl _ _ _ rfl OQ.out rfl (by unfold maxLen; omega) (by omega) BQ.out (Nat.le_refl _) ?_)
              intro A5 c5 w5 own5 hg5 hB5
              rw [← List.replicate_succ'] at own5
              have O5 := Lib.hid own5
              have B5 := Lib.hid hB5
              clear own5 hB5 hg5
              go_wp2_with fail
              go_roundw
              case rel => exact ⟨q + 1, A5, c5, by rfl, by go_num, by omega, O5, B5⟩
              case measure => simp [intOf]; omega
            · obtain rfl : q = k := by omega
              have gqq : decide (q < q) = false := by simp
              have HA3 := Lib.hid (HA.out.next HB.out hlt HT1.out HG.out OQ.out BQ.out).1
              have hi1 := (HA.out.next HB.out hlt HT1.out HG.out OQ.out BQ.out).2
              go_wp2_with fail
              go_roundw
              case rel => exact ⟨ks ++ [q], p + i, m + q, !v, Aq, cq, by rfl, by go_num, rfl, HA3⟩
              case measure => exact hmeas.out hi1
    · obtain rfl : m = N := by omega
      have hp : p ≤ len := by have := HA.out.p_le; have := HBL.out; omega
      have HYES : Hid (ans = some (expandB false ks, p)) := Lib.hid (by rw [← HANS.out]; exact HA.out.done rfl)
      have hc1 := own_cap HA.out.own
      have RR := Lib.hid (fun w (hw : Below wr.heap.size wr w) => rbools_any Av m cv (expandB false ks) hN hc1.1 hc1.2 w (((Rd.of_own HA.out.own).below hw).more hw.size))
      have htk : (by8 b).take p = by8 (b.take p) := by simp [by8, List.map_take]
      have hrd : ∀ w, Below W.heap.size W w → Rd w W.heap.size 1 A p (by8 (b.take p)) := fun w hw => by
        have := (HR.out.below hw).take1 (k := p) hp
        rwa [htk] at this
      have HRD := Lib.hid hrd
      have k1 : (convert 24 9 (.slice A p c)).run Try.prog wr.drew = .ok (.string (str8 (b.take p))) wr.drew := run_str (hrd wr.drew HA.out.below.drew) c
      rw [HA.out.back HB.out rfl] at RR
      obtain ⟨rb, hrb⟩ : ∃ rb, b.take p = rb := ⟨_, rfl⟩
      rw [hrb] at RR HRD k1
      have q1 : (p : Int) ≤ (c : Int) := by omega
      have q2 : (0 : Int) ≤ (p : Int) := by omega
      have hbs := HA.out.below.size
      have g1 : ((str8 rb).toList == (str8 rb).toList) = true := by simp
      have g2 : ((str8 rb).toList != (str8 rb).toList) = false := by simp
      clear hc1 htk hrd hrb
      go_wp2_with fail
      go_region_with (go_at_call 32; refine (RR.out _ ?_).mono ?_; exact (Below.refl _ wr).drew; rintro e w2 ⟨A2, c2, rfl, hown2, hB2⟩; have k2 := run_str (Rd.of_own hown2) c2; have hbw2 := HA.out.below.drew.trans (hB2.mono hbs); have k3 := run_str (HRD.out _ hbw2) c; have OF := Lib.hid (own_heap HA.out.own.drew fun g eg => hB2.block g (HA.out.own.lt g eg).2); have BW := Lib.hid hbw2; clear hown2 hB2 hbw2)
      all_goals
        go_wp2_with fail
        go_ret3
        exact Answer.some_ HYES.out HA.out.len rfl BW.out OF.out
end Go.Proofs.Ytokpcpopibpebaa
