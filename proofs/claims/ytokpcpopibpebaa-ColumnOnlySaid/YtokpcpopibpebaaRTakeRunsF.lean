/-
  The contract of the reference's TakeRuns.
-/
import Derived.Test.YtokpcpopibpebaaTakeRunsF
import Derived.Deep.RegionWith
namespace Go.Proofs.Ytokpcpopibpebaa
open Go Go.RowKit
set_option linter.unusedVariables false
set_option linter.unusedSimpArgs false

/-- what holds at the head of a round of the reference -/
structure RefAt (W : World) (b : List Nat) (N : Nat) (ps : List (Nat × Int)) (p m : Nat) (Av : Option Addr) (cv : Nat) (w : World) : Prop where
  own : w.ownsRow W.heap.size 3 1 (.slice Av m cv) m (i64s (expand ps))
  below : Below W.heap.size W w
  rest : ∃ rest, b = runsBytes ps ++ rest
  at_ : (runsBytes ps).length = p
  len : (expand ps).length = m
  le : m ≤ N
  eq : parseR b N = (parseR (b.drop p) (N - m)).map (ps ++ ·)
  inI : ∀ q ∈ ps, InI q.2
theorem RefAt.p_le {W : World} {b : List Nat} {N : Nat} {ps : List (Nat × Int)} {p m : Nat} {Av : Option Addr} {cv : Nat} {w : World} (h : RefAt W b N ps p m Av cv w) : p ≤ b.length := by
  obtain ⟨r, e⟩ := h.rest
  have := congrArg List.length e
  rw [List.length_append, h.at_] at this
  omega
theorem RefAt.start (W : World) (b : List Nat) (N : Nat) : RefAt W b N [] 0 0 none 0 W :=
  ⟨World.ownsRow_nil _ _ _ _, Below.refl _ _, ⟨b, rfl⟩, rfl, rfl, Nat.zero_le _, by simp, by simp⟩
section
variable {W : World} {b : List Nat} {N : Nat} {ps : List (Nat × Int)} {p m : Nat} {Av : Option Addr} {cv : Nat} {w : World}
theorem takenI_R (hb : ∀ y ∈ b, y < 256) (hN : N ≤ 65536) (h : parseR b N = none) : takenI b N = none := by
  unfold takenI
  rw [parse_of_R hb (by omega), h]; rfl
theorem RefAt.bad (h : RefAt W b N ps p m Av cv w) (hb : ∀ y ∈ b, y < 256) (hN : N ≤ 65536) (hm : m < N) (hp : pair (b.drop p) = none) : takenI b N = none :=
  takenI_R hb hN (by rw [h.eq, parseR_none (by omega) hp]; rfl)
theorem RefAt.bad2 (h : RefAt W b N ps p m Av cv w) (hb : ∀ y ∈ b, y < 256) (hN : N ≤ 65536) (hm : m < N) {k i : Nat} {x : Int} (hp : pair (b.drop p) = some (k, x, i)) (hg : k = 0 ∨ N - m < k) : takenI b N = none :=
  takenI_R hb hN (by rw [h.eq, parseR_bad (by omega) hp hg]; rfl)
theorem RefAt.next (h : RefAt W b N ps p m Av cv w) (hb : ∀ y ∈ b, y < 256) (hm : m < N) {k i : Nat} {x : Int} (hp : pair (b.drop p) = some (k, x, i)) (hg : ¬ (k = 0 ∨ N - m < k))
    {Av' : Option Addr} {cv' : Nat} {w' : World} (ho : w'.ownsRow W.heap.size 3 1 (.slice Av' (m + k) cv') (m + k) (i64s (expand ps) ++ List.replicate k (Value.int .i64 x))) (hB : Below W.heap.size W w') :
    RefAt W b N (ps ++ [(k, x)]) (p + i) (m + k) Av' cv' w' := by
  obtain ⟨rest, e, hi, _, hx⟩ := pair_some (fun y hy => hb y (List.mem_of_mem_drop hy)) hp
  have hk : 1 ≤ k ∧ k ≤ N - m := by omega
  refine ⟨?_, hB, ?_, ?_, ?_, by omega, ?_, ?_⟩
  · rw [expand_snoc, i64s_append]
    have e2 : i64s (List.replicate k x) = List.replicate k (Value.int .i64 x) := by simp [i64s]
    rw [e2]; exact ho
  · obtain ⟨r0, e0⟩ := h.rest
    have : b.drop p = r0 := by rw [e0, ← h.at_, List.drop_left]
    rw [this] at e
    exact ⟨rest, by rw [e0, e, runsBytes_snoc, List.append_assoc]⟩
  · rw [runsBytes_snoc, List.length_append, h.at_, hi]
  · rw [expand_snoc, List.length_append, h.len]; simp
  · rw [h.eq, parseR_next (by omega) hp hg, List.drop_drop, Nat.sub_sub]
    cases parseR (b.drop (p + i)) (N - (m + k)) with
    | none => rfl
    | some qs => simp
  · intro q hq
    rcases List.mem_append.1 hq with hq | hq
    · exact h.inI q hq
    · simp at hq; rw [hq]; exact hx
theorem RefAt.done (h : RefAt W b N ps p m Av cv w) (hb : ∀ y ∈ b, y < 256) (hN : N ≤ 65536) (hm : m = N) : takenI b N = if runsBytes (runs (expand ps)) = b.take p then some (expand ps, p) else none := by
  unfold takenI
  rw [parse_of_R hb (by omega), h.eq, hm, Nat.sub_self, parseR_zero]
  have e : b.take p = runsBytes ps := by
    obtain ⟨r, e⟩ := h.rest
    rw [e, ← h.at_, List.take_left]
  simp only [Option.map_some, List.append_nil, Option.bind_some, e]
  split
  · simp [h.at_]
  · rfl
end

set_option maxRecDepth 100000 in
set_option maxHeartbeats 4000000 in
theorem rtakeruns_any (A : Option Addr) (len c : Nat) (b : List Nat) (n : Int) (hn1 : -9223372036854775808 ≤ n) (hn2 : n < 9223372036854775808) (W : World) (hR : Rd W W.heap.size 1 A len (by8 b)) (hb : ∀ x ∈ b, x < 256) (hlen : len ≤ 1000000) (hcap : len ≤ c) (hmax : c ≤ maxLen) :
    Calls Try.prog 35 #[.slice A len c, .int .i64 n] W (Answer 3 (Value.int .i64) (badN n) (takenI b n.toNat) W) := by
  by_cases h1 : n < 0
  · have e : badN n = true := by simp [badN, h1]
    rw [e]
    go_enter Try.func35, Try.ntmps35
    go_wp2_with fail
    go_ret3
    exact Answer.arg_ (Below.refl _ _)
  by_cases h2 : 65536 < n
  · have e : badN n = true := by simp [badN, h2]
    rw [e]
    go_enter Try.func35, Try.ntmps35
    go_wp2_with fail
    go_ret3
    exact Answer.arg_ (Below.refl _ _)
  have e : badN n = false := by simp [badN]; omega
  rw [e]
  obtain ⟨N, rfl⟩ : ∃ N : Nat, n = N := ⟨n.toNat, by omega⟩
  have hN : N ≤ 65536 := by omega
  have d1 : decide ((N : Int) < 0) = false := by simp
  have d2 : decide (65536 < (N : Int)) = false := by simp; omega
  rw [Int.toNat_natCast]
  have hbl : b.length = len := by have := hR.len1; rwa [by8_len] at this
  have HBL := Lib.hid hbl
  have HR := Lib.hid hR
  have HB := Lib.hid hb
  unfold maxLen at hmax
  obtain ⟨ans, hans⟩ : ∃ ans, takenI b N = ans := ⟨_, rfl⟩
  have HANS := Lib.hid hans
  rw [hans]
  clear hbl hR hb e h1 h2 hn1 hn2 hans
  go_enter Try.func35, Try.ntmps35
  go_wp2_with fail
  go_loopw [7, 8] (fun s7 s8 wr => ∃ (ps : List (Nat × Int)) (p m : Nat) (Av : Option Addr) (cv : Nat), s7 = .slice Av m cv ∧ s8 = .int .i64 p ∧ Hid (RefAt W b N ps p m Av cv wr)) (fun s7 _ _ => N - (match s7 with | .slice _ m _ => m | _ => 0))
  case atStart => exact ⟨[], 0, 0, none, 0, rfl, rfl, Lib.hid (RefAt.start W b N)⟩
  case round =>
    obtain ⟨ps, p, m, Av, cv, rfl, rfl, HA⟩ := hrel
    have hmN := HA.out.le
    by_cases hlt : m < N
    · have hp : p ≤ len := by have := HA.out.p_le; have := HBL.out; omega
      have hbs := HA.out.below.size
      obtain ⟨A1, hA1⟩ : ∃ A1, (if c = p then A else A.map (·.add p)) = A1 := ⟨_, rfl⟩
      have rd1 : ∀ w, Below W.heap.size W w → Rd w W.heap.size 1 A1 (len - p) (by8 (b.drop p)) := fun w hw => by
        have := (HR.out.below hw).drop1 (k := p) (c := c) hp hcap
        rw [hA1] at this
        simpa [by8, List.map_drop] using this
      have hb1 : ∀ x ∈ b.drop p, x < 256 := fun x hx => HB.out x (List.mem_of_mem_drop hx)
      have T1 := Lib.hid (fun cc w (hw : Below W.heap.size W w) (hcc : len - p ≤ cc) => rtake_any (c := cc) (rd1 w hw) hb1 (by unfold maxLen; omega) hcc hw.size)
      have k1 : (0 : Int) ≤ (p : Int) := by omega
      have k2 : (p : Int) ≤ (c : Int) := by omega
      have k3 : (p : Int) ≤ (len : Int) := by omega
      cases ht1 : V.take (b.drop p) with
      | none =>
        have T2 : Hid (∀ cc w, Below W.heap.size W w → len - p ≤ cc → Calls Try.prog 25 #[.slice A1 (len - p) cc] w fun e w' => e = .returned (.tuple #[.int .u64 0, .int .i64 0, .int .i64 31]) ∧ Below w.heap.size w w') := Lib.hid fun cc w hw hcc => by
          have := T1.out cc w hw hcc
          unfold RTakeRet at this
          obtain ⟨a, b, c⟩ := T_none ht1
          rw [a, b, c] at this
          exact this
        have HNO : Hid (ans = none) := Lib.hid (by rw [← HANS.out]; exact HA.out.bad HB.out hN hlt (pair_none1 ht1))
        clear rd1 hb1 T1 ht1
        go_wp2_with fail
        refine (T2.out _ _ HA.out.below (by omega)).mono ?_
        rintro e w1 ⟨rfl, hB1⟩
        have X1 := Lib.hid (HA.out.below.trans (hB1.mono hbs))
        clear hB1
        go_wp2_with fail
        refine (T2.out _ _ X1.out (by omega)).mono ?_
        rintro e w2 ⟨rfl, hB2⟩
        have X2 := Lib.hid (X1.out.trans (hB2.mono X1.out.size))
        clear hB2
        go_wp2_with fail
        go_ret3
        exact Answer.none_ HNO.out X2.out
      | some r =>
        obtain ⟨k, i⟩ := r
        obtain ⟨hi, hk⟩ := take_le hb1 ht1
        simp only [List.length_drop, HBL.out] at hi
        have T2 : Hid (∀ cc w, Below W.heap.size W w → len - p ≤ cc → Calls Try.prog 25 #[.slice A1 (len - p) cc] w fun e w' => e = .returned (.tuple #[.int .u64 (k : Int), .int .i64 (i : Int), .int .i64 0]) ∧ Below w.heap.size w w') := Lib.hid fun cc w hw hcc => by
          have := T1.out cc w hw hcc
          unfold RTakeRet at this
          obtain ⟨a, b, c⟩ := T_some ht1
          rw [a, b, c] at this
          exact this
        have HK := Lib.hid hk
        obtain ⟨A2, hA2⟩ : ∃ A2, (if c = p + i then A else A.map (·.add (p + i))) = A2 := ⟨_, rfl⟩
        have rd2 : ∀ w, Below W.heap.size W w → Rd w W.heap.size 1 A2 (len - (p + i)) (by8 (b.drop (p + i))) := fun w hw => by
          have := (HR.out.below hw).drop1 (k := p + i) (c := c) (by omega) hcap
          rw [hA2] at this
          simpa [by8, List.map_drop] using this
        have hb2 : ∀ x ∈ b.drop (p + i), x < 256 := fun x hx => HB.out x (List.mem_of_mem_drop hx)
        have T3 := Lib.hid (fun cc w (hw : Below W.heap.size W w) (hcc : len - (p + i) ≤ cc) => rtake_any (c := cc) (rd2 w hw) hb2 (by unfold maxLen; omega) hcc hw.size)
        have k4 : (p : Int) + (i : Int) ≤ (c : Int) := by omega
        have k5 : (p : Int) + (i : Int) ≤ (len : Int) := by omega
        have k6 : (0 : Int) ≤ (p : Int) + (i : Int) := by omega
        have k7 : ((p : Int) + (i : Int)).toNat = p + i := by omega
        have hw1 : IntKind.i64.wrap ((p : Int) + (i : Int)) = (p : Int) + (i : Int) := IntWalk.i64_in _ (by omega)
        have HT1 := Lib.hid ht1
        clear rd1 hb1 T1 ht1 hk
        cases ht2 : V.take (b.drop (p + i)) with
        | none =>
          have T4 : Hid (∀ cc w, Below W.heap.size W w → len - (p + i) ≤ cc → Calls Try.prog 25 #[.slice A2 (len - (p + i)) cc] w fun e w' => e = .returned (.tuple #[.int .u64 0, .int .i64 0, .int .i64 31]) ∧ Below w.heap.size w w') := Lib.hid fun cc w hw hcc => by
            have := T3.out cc w hw hcc
            unfold RTakeRet at this
            obtain ⟨a, b, c⟩ := T_none ht2
            rw [a, b, c] at this
            exact this
          have HNO : Hid (ans = none) := Lib.hid (by rw [← HANS.out]; exact HA.out.bad HB.out hN hlt (pair_none2 HT1.out (by rw [List.drop_drop]; exact ht2)))
          clear rd2 hb2 T3 ht2
          go_wp2_with fail
          refine (T2.out _ _ HA.out.below (by omega)).mono ?_
          rintro e w1 ⟨rfl, hB1⟩
          have X1 := Lib.hid (HA.out.below.trans (hB1.mono hbs))
          clear hB1
          go_wp2_with fail
          refine (T4.out _ _ X1.out (by omega)).mono ?_
          rintro e w2 ⟨rfl, hB2⟩
          have X2 := Lib.hid (X1.out.trans (hB2.mono X1.out.size))
          clear hB2
          go_wp2_with fail
          go_ret3
          exact Answer.none_ HNO.out X2.out
        | some r =>
          obtain ⟨v, j⟩ := r
          obtain ⟨hj, hv⟩ := take_le hb2 ht2
          simp only [List.length_drop, HBL.out] at hj
          have T4 : Hid (∀ cc w, Below W.heap.size W w → len - (p + i) ≤ cc → Calls Try.prog 25 #[.slice A2 (len - (p + i)) cc] w fun e w' => e = .returned (.tuple #[.int .u64 (v : Int), .int .i64 (j : Int), .int .i64 0]) ∧ Below w.heap.size w w') := Lib.hid fun cc w hw hcc => by
            have := T3.out cc w hw hcc
            unfold RTakeRet at this
            obtain ⟨a, b, c⟩ := T_some ht2
            rw [a, b, c] at this
            exact this
          obtain ⟨x, hx⟩ : ∃ x, zag (v : Int) = x := ⟨_, rfl⟩
          have hz := fun wr => rzag_any v wr hv
          rw [hx] at hz
          have HZ := Lib.hid hz
          have hpr : pair (b.drop p) = some (k, x, i + j) := by rw [← hx]; exact pair_both HT1.out (by rw [List.drop_drop]; exact ht2)
          have HPR := Lib.hid hpr
          have hsub : IntKind.u64.wrap ((N : Int) - (m : Int)) = ((N - m : Nat) : Int) := by rw [u64_wrap_of _ (by omega) (by omega)]; omega
          clear rd2 hb2 T3 ht2 hz hpr hx hv HT1
          go_wp2_with fail
          refine (T2.out _ _ HA.out.below (by omega)).mono ?_
          rintro e w1 ⟨rfl, hB1⟩
          have X1 := Lib.hid (HA.out.below.trans (hB1.mono hbs))
          have o1 := Lib.hid (own_heap HA.out.own fun g eg => hB1.block g (HA.out.own.lt g eg).2)
          clear hB1
          go_wp2_with fail
          refine (T4.out _ _ X1.out (by omega)).mono ?_
          rintro e w2 ⟨rfl, hB2⟩
          have X2 := Lib.hid (X1.out.trans (hB2.mono X1.out.size))
          have o2 := Lib.hid (own_heap o1.out fun g eg => hB2.block g (o1.out.lt g eg).2)
          clear hB2 X1 o1 T2 T4
          by_cases hkl : N - m < k
          · have HNO : Hid (ans = none) := Lib.hid (by rw [← HANS.out]; exact HA.out.bad2 HB.out hN hlt HPR.out (.inr hkl))
            go_wp2_with fail
            go_ret3
            exact Answer.none_ HNO.out X2.out
          have gkl : decide (N - m < k) = false := by simpa using hkl
          have hkN : m + k ≤ 65536 := by omega
          have hkN2 : k ≤ N - m := by omega
          go_wp2_with fail
          obtain ⟨wo, rfl⟩ : ∃ wo : World, wo = wr := ⟨_, rfl⟩
          go_loopw [7, 15] (fun s7 s15 wr => ∃ (q : Nat) (Aq : Option Addr) (cq : Nat), s7 = .slice Aq (m + q) cq ∧ s15 = .int .u64 q ∧ q ≤ k ∧ Hid (wr.ownsRow W.heap.size 3 1 (.slice Aq (m + q) cq) (m + q) (i64s (expand ps) ++ List.replicate q (Value.int .i64 x))) ∧ Hid (Below W.heap.size W wr)) (fun _ s15 _ => k - (intOf s15).toNat)
          case atStart => exact ⟨0, Av, cv, rfl, rfl, Nat.zero_le _, Lib.hid (by simpa using o2.out), X2⟩
          case round =>
            obtain ⟨q, Aq, cq, rfl, rfl, hq, OQ, BQ⟩ := hrel
            by_cases hqk : q < k
            · have hwr : IntKind.u64.wrap ((q : Int) + 1) = (q : Int) + 1 := u64_wrap_of _ (by omega) (by omega)
              go_wp2_with fail
              refine (HZ.out _).mono ?_
              rintro e w' ⟨rfl, rfl⟩
              go_wp2_with (at_builtin; refine wpList_app1 _ rfl (.tmp 64) (.tmp 67) 38 rfl W W.heap.size 3 (.int .i64 0) 8 Try.underlying38 info3 rfl wr (.int .i64 x) rfl rfl _ _ _ rfl OQ.out rfl (by unfold maxLen; omega) (by omega) BQ.out (Nat.le_refl _) ?_)
              intro A5 c5 w5 own5 hg5 hB5
              rw [← List.replicate_succ'] at own5
              have O5 := Lib.hid own5
              have B5 := Lib.hid hB5
              clear own5 hB5 hg5
              go_wp2_with fail
              go_roundw
              case rel => exact ⟨q + 1, A5, c5, by rfl, by go_num, by omega, O5, B5⟩
              case measure => simp [intOf]; omega
            · obtain rfl : q = k := by omega
              have gqq : decide (q < q) = false := by simp
              by_cases hk0 : q = 0
              · subst hk0
                have HNO : Hid (ans = none) := Lib.hid (by rw [← HANS.out]; exact HA.out.bad2 HB.out hN hlt HPR.out (.inl rfl))
                go_wp2_with fail
                go_ret3
                exact Answer.none_ HNO.out BQ.out
              · have gk0 : ((q : Int) == 0) = false := by simpa using (by omega : ¬ (q : Int) = 0)
                have HA3 : Hid (RefAt W b N (ps ++ [(q, x)]) (p + (i + j)) (m + q) Aq cq wr) := Lib.hid (HA.out.next HB.out hlt HPR.out (by omega) OQ.out BQ.out)
                have hq1 : 1 ≤ q := by omega
                clear hk0 hkl
                go_wp2_with fail
                go_roundw
                case rel => exact ⟨ps ++ [(q, x)], p + (i + j), m + q, Aq, cq, by rfl, by go_num, HA3⟩
                case measure => show N - (m + q) < N - m; omega
    · obtain rfl : m = N := by omega
      have hp : p ≤ len := by have := HA.out.p_le; have := HBL.out; omega
      have HDN := Lib.hid (HA.out.done HB.out hN rfl)
      have hc1 := own_cap HA.out.own
      have hi1 := expand_InI HA.out.inI
      have RR := Lib.hid (fun w (hw : Below wr.heap.size wr w) => rruns_any Av m cv (expand ps) hN hc1.1 hc1.2 hi1 w (((Rd.of_own HA.out.own).below hw).more hw.size))
      have htk : (by8 b).take p = by8 (b.take p) := by simp [by8, List.map_take]
      have hrd : ∀ w, Below W.heap.size W w → Rd w W.heap.size 1 A p (by8 (b.take p)) := fun w hw => by
        have := (HR.out.below hw).take1 (k := p) hp
        rwa [htk] at this
      have HRD := Lib.hid hrd
      have k1 : (convert 24 9 (.slice A p c)).run Try.prog wr.drew = .ok (.string (str8 (b.take p))) wr.drew := run_str (hrd wr.drew HA.out.below.drew) c
      have hbq := str8_beq (runsBytes_byte (runs (expand ps))) (l' := b.take p) (fun y hy => HB.out y (List.mem_of_mem_take hy))
      obtain ⟨rb, hrb⟩ : ∃ rb, runsBytes (runs (expand ps)) = rb := ⟨_, rfl⟩
      rw [hrb] at HDN hbq
      rw [hrb] at RR
      have q1 : (p : Int) ≤ (c : Int) := by omega
      have q2 : (0 : Int) ≤ (p : Int) := by omega
      have hbs := HA.out.below.size
      clear hc1 hi1 htk hrd hrb
      by_cases he : rb = b.take p
      · have g1 : ((str8 rb).toList == (str8 (b.take p)).toList) = true := by rw [hbq]; simpa using he
        have g2 : ((str8 rb).toList != (str8 (b.take p)).toList) = false := by rw [bne, g1]; rfl
        have HYES : Hid (ans = some (expand ps, p)) := Lib.hid (by rw [← HANS.out, HDN.out, if_pos he])
        clear hbq he
        go_wp2_with fail
        go_region_with (go_at_call 28; refine (RR.out _ ?_).mono ?_; exact (Below.refl _ wr).drew; rintro e w2 ⟨A2, c2, rfl, hown2, hB2⟩; have k2 := run_str (Rd.of_own hown2) c2; have hbw2 := HA.out.below.drew.trans (hB2.mono hbs); have k3 := run_str (HRD.out _ hbw2) c; have OF := Lib.hid (own_heap HA.out.own.drew fun g eg => hB2.block g (HA.out.own.lt g eg).2); have BW := Lib.hid hbw2; clear hown2 hB2 hbw2)
        all_goals
          go_wp2_with fail
          go_ret3
          exact Answer.some_ HYES.out HA.out.len rfl BW.out OF.out
      · have g1 : ((str8 rb).toList == (str8 (b.take p)).toList) = false := by rw [hbq]; simpa using he
        have g2 : ((str8 rb).toList != (str8 (b.take p)).toList) = true := by rw [bne, g1]; rfl
        have HNO : Hid (ans = none) := Lib.hid (by rw [← HANS.out, HDN.out, if_neg he])
        clear hbq he
        go_wp2_with fail
        go_region_with (go_at_call 28; refine (RR.out _ ?_).mono ?_; exact (Below.refl _ wr).drew; rintro e w2 ⟨A2, c2, rfl, hown2, hB2⟩; have k2 := run_str (Rd.of_own hown2) c2; have hbw2 := HA.out.below.drew.trans (hB2.mono hbs); have k3 := run_str (HRD.out _ hbw2) c; have BW := Lib.hid hbw2; clear hown2 hB2 hbw2)
        all_goals
          go_wp2_with fail
          go_ret3
          exact Answer.none_ HNO.out BW.out
end Go.Proofs.Ytokpcpopibpebaa
