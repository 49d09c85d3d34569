/-
  THE WALK OF ColumnShort.
-/
import Derived.Test.YtokpcpopibpebaaOpenCol
import Derived.Test.YtokpcpopibpebaaAlive4F
import Derived.Test.YtokpcpopibpebaaShortLaw
import Derived.Test.YtokpcpopibpebaaAppAt
namespace Go.Proofs.Ytokpcpopibpebaa.columnShort
open Go Go.RowKit
set_option linter.unusedVariables false
set_option linter.unusedSimpArgs false

/-- at the head of a round -/
structure At (W : World) (first step : Int) (i : Nat) (A1 : Option Addr) (c1 : Nat) (A2 : Option Addr) (c2 : Nat) (x : Int) (w : World) : Prop where
  o1 : w.ownsRow W.heap.size 3 1 (.slice A1 i c1) i (i64s (List.replicate i first))
  o2 : w.ownsRow W.heap.size 3 1 (.slice A2 i c2) i (i64s (rises first step i))
  far : ∀ g, (Value.slice A1 i c1).ownBlock = some g → (Value.slice A2 i c2).ownBlock = some g → False
  below : Below W.heap.size W w
  val : wrap64 x = rise first step i
  lo : 0 ≤ x
  hi : x < 18446744073709551616

set_option maxRecDepth 100000 in
set_option maxHeartbeats 4000000 in
theorem core (W : World) (first step n0 N : Int) (M : Nat) (hN : N = M) (hM : M ≤ 65536) (hf : InI first) (hs : InI step) (hpre : (n0 < 0 ∧ Int.tmod (-(n0 + 1)) 65537 = N) ∨ (0 ≤ n0 ∧ Int.tmod n0 65537 = N)) (h0 : InI n0) :
    Calls Try.prog 11 #[.int .i64 first, .int .i64 step, .int .i64 n0] W fun e w' => e = .returned (.bool true) ∧ Below W.heap.size W w' := by
  subst hN
  have HF := Lib.hid hf
  have HS := Lib.hid hs
  have h01 := h0.1
  have h02 := h0.2
  have HX0 : Hid (At W first step 0 none 0 none 0 (IntKind.u64.wrap first) W) := Lib.hid
    ⟨World.ownsRow_nil _ _ _ _, World.ownsRow_nil _ _ _ _, fun g h => by simp [Value.ownBlock] at h, Below.refl _ _, rise_zero hf, by rw [IntKind.wrap_u64]; omega, by rw [IntKind.wrap_u64]; omega⟩
  clear hf hs h0
  rcases hpre with ⟨hn, ht⟩ | ⟨hn, ht⟩
  all_goals
    go_enter Try.func11, Try.ntmps11
    go_wp2_with fail
    go_loopw [7, 8, 9, 10] (fun s7 s8 s9 s10 wr => ∃ (i : Nat) (A1 : Option Addr) (c1 : Nat) (A2 : Option Addr) (c2 : Nat) (x : Int), s10 = .int .i64 i ∧ s7 = .slice A1 i c1 ∧ s8 = .slice A2 i c2 ∧ s9 = .int .u64 x ∧ i ≤ M ∧ Hid (At W first step i A1 c1 A2 c2 x wr)) (fun _ _ _ s10 _ => M - (intOf s10).toNat)
    case atStart => exact ⟨0, none, 0, none, 0, _, rfl, rfl, rfl, rfl, Nat.zero_le _, HX0⟩
    case round =>
      obtain ⟨i, A1, c1, A2, c2, x, rfl, rfl, rfl, rfl, hi, HA⟩ := hrel
      by_cases hlt : i < M
      · obtain ⟨v, hv⟩ : ∃ v, rise first step i = v := ⟨_, rfl⟩
        have hv1 : wrap64 x = v := by rw [← hv]; exact HA.out.val
        have hv2 : IntKind.i64.wrap x = v := by rw [IntWalk.i64_left]; exact hv1
        have HV := Lib.hid hv
        have hx1 := HA.out.lo
        have hx2 := HA.out.hi
        obtain ⟨x', hx'⟩ : ∃ x', IntKind.u64.wrap (x + IntKind.u64.wrap step) = x' := ⟨_, rfl⟩
        have HXV : Hid (wrap64 x' = rise first step (i + 1)) := Lib.hid (by rw [← hx', rise_step hv1, ← hv]; rfl)
        have HXR : Hid (0 ≤ x' ∧ x' < 18446744073709551616) := Lib.hid (by rw [← hx', IntKind.wrap_u64]; omega)
        have hbs := HA.out.below.size
        clear hv
        go_wp2_with (at_builtin; refine wpList_app_at _ rfl (.tmp 27) (.tmp 29) 38 rfl W.heap.size 3 (.int .i64 0) 1 8 Try.underlying38 info3 rfl (by decide) _ _ _ rfl (HA.out.o1.alloc _) (wr.heap.size + 1) (some ⟨wr.heap.size, 0, none⟩) 1 1 [.int .i64 first] rfl (rd_alloc wr #[.int .i64 first] 3 (0, 0) 1 1 rfl) (i64s_one [first]) (by unfold maxLen; omega) (by omega) (by simp; omega) ?_)
        intro B1 d1 w1 own1 hg1 hat1
        have hs1 := hg1.size
        rw [World.size_alloc] at hs1
        have p2 : w1.ownsRow W.heap.size 3 1 (.slice A2 i c2) i (i64s (rises first step i)) := own_apart (HA.out.o2.alloc _) hg1 (fun g h1 h2 => HA.out.far g h2 h1)
        have far1 : ∀ g, (Value.slice B1 (i + 1) d1).ownBlock = some g → (Value.slice A2 i c2).ownBlock = some g → False := fun g h1 h2 => by
          rcases hat1 g h1 with h3 | h3
          · exact HA.out.far g h3 h2
          · have := (HA.out.o2.lt g h2).2
            try simp only [World.size_alloc] at h3
            omega
        have bel1 : Below W.heap.size W w1 := (HA.out.below.alloc hbs _).grown hg1 (by rw [World.size_alloc]; omega) (fun g eg => (HA.out.o1.lt g eg).1)
        have P1 := Lib.hid own1
        have P2 := Lib.hid p2
        have FA1 := Lib.hid far1
        have BE1 := Lib.hid bel1
        clear own1 p2 far1 bel1 hg1 hat1 HA
        go_wp2_with (at_builtin; refine wpList_app_at _ rfl (.tmp 31) (.tmp 34) 38 rfl W.heap.size 3 (.int .i64 0) 1 8 Try.underlying38 info3 rfl (by decide) _ _ _ rfl (P2.out.alloc _) (w1.heap.size + 1) (some ⟨w1.heap.size, 0, none⟩) 1 1 [.int .i64 v] rfl (rd_alloc w1 #[.int .i64 v] 3 (0, 0) 1 1 rfl) (i64s_one [v]) (by unfold maxLen; omega) (by omega) (by simp; omega) ?_)
        intro B2 d2 w2 own2 hg2 hat2
        have q1 : w2.ownsRow W.heap.size 3 1 (.slice B1 (i + 1) d1) (i + 1) (i64s (List.replicate i first) ++ [.int .i64 first]) := own_apart (P1.out.alloc _) hg2 (fun g h1 h2 => FA1.out g h1 h2)
        have far2 : ∀ g, (Value.slice B1 (i + 1) d1).ownBlock = some g → (Value.slice B2 (i + 1) d2).ownBlock = some g → False := fun g h1 h2 => by
          rcases hat2 g h2 with h3 | h3
          · exact FA1.out g h1 h3
          · have := (P1.out.lt g h1).2
            try simp only [World.size_alloc] at h3
            omega
        have HA2 : Hid (At W first step (i + 1) B1 d1 B2 d2 x' w2) := Lib.hid ⟨by rw [List.replicate_succ', i64s_append]; exact q1, by rw [rises, i64s_append, HV.out]; exact own2, far2,
          (BE1.out.alloc (by omega) _).grown hg2 (by rw [World.size_alloc]; omega) (fun g eg => (P2.out.lt g eg).1), HXV.out, HXR.out.1, HXR.out.2⟩
        clear own2 q1 far2 hg2 hat2 P1 P2 FA1 BE1
        go_wp2_with fail
        go_roundw
        case rel => exact ⟨i + 1, B1, d1, B2, d2, x', by go_num, by rfl, by rfl, by rfl, by omega, HA2⟩
        case measure => simp [intOf]; omega
      · obtain rfl : i = M := by omega
        have hi1 : ∀ x ∈ List.replicate i first, InI x := fun x hx => by rw [List.eq_of_mem_replicate hx]; exact HF.out
        have e1 := own_cap HA.out.o1
        have e2 := own_cap HA.out.o2
        have hr1 := runs_any A1 i c1 (List.replicate i first) hM e1.1 e1.2 hi1 wr (Rd.of_own HA.out.o1)
        have HR1 := Lib.hid hr1
        have HR2 : Hid (∀ w, Below wr.heap.size wr w → Calls Try.prog 29 #[.slice A2 i c2] w (Made8 (runsBytes (runs (delta (rises first step i)))) w)) := Lib.hid fun w hb =>
          deltas_any A2 i c2 (rises first step i) hM e2.1 e2.2 (rises_InI HF.out i) w (((Rd.of_own HA.out.o2).below hb).more hb.size)
        have H1 := Lib.hid (short_one hM HF.out)
        have H2 := Lib.hid (short_two hM HF.out HS.out)
        have HBW := Lib.hid HA.out.below
        clear hi1 e1 e2 hr1 HA
        obtain ⟨L1, hL1⟩ : ∃ L, (runsBytes (runs (List.replicate i first))).length = L := ⟨_, rfl⟩
        obtain ⟨L2, hL2⟩ : ∃ L, (runsBytes (runs (delta (rises first step i)))).length = L := ⟨_, rfl⟩
        rw [hL1] at H1
        rw [hL2] at H2
        have HL1 := Lib.hid hL1
        have HL2 := Lib.hid hL2
        clear hL1 hL2
        go_wp2_with fail
        refine HR1.out.mono ?_
        rintro e w3 ⟨A3, c3, rfl, own3, hB3⟩
        have X3 := Lib.hid hB3
        rw [HL1.out]
        clear own3 hB3 HR1
        go_wp2_with fail
        refine (HR2.out _ X3.out).mono ?_
        rintro e w4 ⟨A4, c4, rfl, own4, hB4⟩
        have X4 := Lib.hid (HBW.out.trans ((X3.out.trans (hB4.mono X3.out.size)).mono HBW.out.size))
        rw [HL2.out]
        clear own4 hB4 HR2 X3
        go_wp2_with fail
        refine (alive4_any w4).mono ?_
        rintro e w5 ⟨rfl, hB5⟩
        have X5 := Lib.hid (X4.out.trans (hB5.mono X4.out.size))
        have h1 : L1 ≤ 13 := H1.out.1
        have h2 : L2 ≤ 26 := H2.out
        clear hB5 X4
        by_cases hz : i = 0
        · have hL0 : L1 = 0 := H1.out.2.2 hz
          subst hz hL0
          go_wp2_with fail
          go_ret
          exact ⟨rfl, X5.out⟩
        · have hL0 : ¬ L1 = 0 := fun e => hz (H1.out.2.1 e)
          have g1 : ((i : Int) == 0) = false := by simpa using (by omega : ¬ (i : Int) = 0)
          have g2 : ((L1 : Int) == 0) = false := by simpa using (by omega : ¬ (L1 : Int) = 0)
          clear hz hL0
          go_wp2_with fail
          go_ret
          exact ⟨rfl, X5.out⟩

theorem walk (W : World) (first : Int) (f1 : -9223372036854775808 ≤ first) (f2 : first < 9223372036854775808) (step : Int) (s1 : -9223372036854775808 ≤ step) (s2 : step < 9223372036854775808) (n : Int) (n1 : -9223372036854775808 ≤ n) (n2 : n < 9223372036854775808) :
    Calls Try.prog 11 #[.int .i64 first, .int .i64 step, .int .i64 n] W fun e w' => e = .returned (.bool true) ∧ Below W.heap.size W w' := by
  by_cases h : n < 0
  · have e : Int.tmod (-(n + 1)) 65537 = (-(n + 1)) % 65537 := Int.tmod_eq_emod_of_nonneg (by omega)
    exact core W first step n ((-(n + 1)) % 65537) ((-(n + 1)) % 65537).toNat (by omega) (by omega) ⟨f1, f2⟩ ⟨s1, s2⟩ (.inl ⟨h, e⟩) ⟨n1, n2⟩
  · have e : Int.tmod n 65537 = n % 65537 := Int.tmod_eq_emod_of_nonneg (by omega)
    exact core W first step n (n % 65537) (n % 65537).toNat (by omega) (by omega) ⟨f1, f2⟩ ⟨s1, s2⟩ (.inr ⟨by omega, e⟩) ⟨n1, n2⟩
end Go.Proofs.Ytokpcpopibpebaa.columnShort
