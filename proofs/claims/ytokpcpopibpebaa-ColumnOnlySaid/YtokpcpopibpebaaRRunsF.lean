/-
  The contract of the reference's Runs.
-/
import Derived.Test.YtokpcpopibpebaaBoolsF
namespace Go.Proofs.Ytokpcpopibpebaa
open Go Go.RowKit
set_option linter.unusedVariables false
set_option linter.unusedSimpArgs false

theorem blw_draw {B : Nat} {W w : World} (h : Below B W w) (q : Nat) : Below B W (w.drewN q) := ⟨h.os, h.tape, h.output, h.size, h.block⟩

/-- the first run behind place i, found -/
theorem runs_at {α : Type} [DecidableEq α] {zs : List α} {i k : Nat} {x : α} (hik : i < k) (hk : k ≤ zs.length) (h : ∀ j, i ≤ j → j < k → zs[j]? = some x) (h' : k = zs.length ∨ ∃ y, zs[k]? = some y ∧ y ≠ x) :
    runs (zs.drop i) = (k - i, x) :: runs (zs.drop k) := by
  have := runs_first (L := zs.drop i) (x := x) (k := k - i) (by omega) (fun j hj => by rw [List.getElem?_drop]; exact h _ (by omega) (by omega)) (by
    rcases h' with h' | ⟨y, h1, h2⟩
    · left; simp; omega
    · right; exact ⟨y, by rw [List.getElem?_drop, show i + (k - i) = k by omega]; exact h1, h2⟩)
  rw [this, List.drop_drop, show i + (k - i) = k by omega]

set_option maxRecDepth 100000 in
set_option maxHeartbeats 2000000 in
theorem rruns_any (A : Option Addr) (len cap : Nat) (zs : List Int) (hlen : len ≤ 65536) (hcap : len ≤ cap) (hmax : cap ≤ maxLen) (hz : ∀ x ∈ zs, InI x) (w : World) (hR : Rd w w.heap.size 1 A len (i64s zs)) :
    Calls Try.prog 28 #[.slice A len cap] w (Made8 (runsBytes (runs zs)) w) := by
  have hzl : zs.length = len := by have := hR.len1; rwa [i64s_len] at this
  have hrl := runs_len zs
  have HA := Lib.hid (runs_all (l := zs) (by omega) hz)
  have HLR := Lib.hid hrl
  have HZL := Lib.hid hzl
  have HR := Lib.hid hR
  clear hz hR hzl hrl
  go_enter Try.func28, Try.ntmps28
  go_wp2_with fail
  go_loopw [3, 4, 5] (fun s3 s4 s5 wr => ∃ (i : Nat) (pre : List (Nat × Int)) (Av : Option Addr) (cv : Nat), s4 = .int .i64 i ∧ i ≤ len ∧ pre ++ runs (zs.drop i) = runs zs ∧ s3 = .slice Av (runsBytes pre).length cv ∧ wr.ownsRow w.heap.size 5 1 (.slice Av (runsBytes pre).length cv) (runsBytes pre).length (by8 (runsBytes pre)) ∧ Below w.heap.size w wr) (fun _ s4 _ _ => len - (intOf s4).toNat)
  case atStart => exact ⟨0, [], none, 0, rfl, Nat.zero_le _, rfl, rfl, World.ownsRow_nil _ _ _ _, Below.refl _ _⟩
  case round =>
    obtain ⟨i, pre, Av, cv, rfl, hi, hpr, rfl, hown, hB⟩ := hrel
    have HPR := Lib.hid hpr
    have HOWN := Lib.hid hown
    have HB := Lib.hid hB
    clear hpr hown hB
    by_cases hlt : i < len
    · obtain ⟨x, hx⟩ : ∃ x, zs[i]? = some x := ⟨zs[i]'(by rw [HZL.out]; exact hlt), List.getElem?_eq_getElem _⟩
      obtain ⟨b, off, rfl, hb, hcs⟩ := HR.out.at_ (Nat.lt_of_le_of_lt (Nat.zero_le _) hlt)
      have CW : Hid (∀ j y, zs[j]? = some y → w.cell? ⟨b, off + j, none⟩ = some (Value.int .i64 y)) := Lib.hid fun j y hy => hcs j _ (i64s_at hy)
      have HCS : Hid (∀ j y, zs[j]? = some y → wr.cell? ⟨b, off + j, none⟩ = some (Value.int .i64 y)) := Lib.hid fun j y hy => (HB.out.cell (p := ⟨b, off + j, none⟩) hb).trans (hcs j _ (i64s_at hy))
      have ci : wr.cell? ⟨b, off + i, none⟩ = some (Value.int .i64 x) := HCS.out i x hx
      have HXI := Lib.hid hx
      clear hcs hx
      have i1 : (0 : Int) ≤ (i : Int) := by omega
      have i2 : (i : Int) < (len : Int) := by omega
      go_wp2_with fail
      go_loopw [5] (fun s wq => ∃ (k mq : Nat), s = .int .i64 k ∧ i ≤ k ∧ k ≤ len ∧ Hid (∀ j, i ≤ j → j < k → zs[j]? = some x) ∧ wq = wr.drewN mq) (fun s _ => len - (intOf s).toNat)
      case atStart => exact ⟨i, 0, rfl, Nat.le_refl _, hi, Lib.hid fun j h1 h2 => by omega, rfl⟩
      case round =>
        obtain ⟨k, mq, rfl, h1k, hkm, hall, rfl⟩ := hrel
        have hki : (0 : Int) ≤ (k : Int) := by omega
        by_cases hlk : k < len
        · obtain ⟨y, hy⟩ : ∃ y, zs[k]? = some y := ⟨zs[k]'(by rw [HZL.out]; exact hlk), List.getElem?_eq_getElem _⟩
          have ck : wr.cell? ⟨b, off + k, none⟩ = some (Value.int .i64 y) := HCS.out k y hy
          have ik : (k : Int) < (len : Int) := by omega
          by_cases hxy : y = x
          · have HY2 : Hid (∀ j, i ≤ j → j < k + 1 → zs[j]? = some x) := Lib.hid fun j h1 h2 => by
              rcases Nat.lt_or_ge j k with h | h
              · exact hall.out j h1 h
              · obtain rfl : j = k := by omega
                rw [hy, hxy]
            subst hxy
            clear hy
            go_wp2_with fail
            go_quiet (fail)
            rw [World.drewN_drewN]
            go_wp2_with fail
            go_roundw
            case rel => exact ⟨k + 1, _, by go_num, by omega, by omega, HY2, rfl⟩
            case measure => simp [intOf]; omega
          · have hik : i < k := by
              rcases Nat.lt_or_ge i k with h | h
              · exact h
              · obtain rfl : i = k := by omega
                exact absurd (by have := HXI.out; rw [hy] at this; injection this) hxy
            have gxy : (y == x) = false := by simpa using hxy
            have HF : Hid (runs (zs.drop i) = (k - i, x) :: runs (zs.drop k)) := Lib.hid (runs_at hik (by have := HZL.out; omega) hall.out (.inr ⟨y, hy, hxy⟩))
            have hmem : (k - i, x) ∈ runs zs := by rw [← HPR.out, HF.out]; simp
            obtain ⟨hk1, hk2, hx⟩ := HA.out _ hmem
            simp only at hk1 hk2 hx
            have hpb := runsBytes_len (pre ++ [(k - i, x)]) (fun p hp => (HA.out p (by rw [← HPR.out, HF.out]; simp at hp ⊢; rcases hp with hp | hp; exact .inl hp; exact .inr (.inl hp))).2)
            have hlp : (pre ++ [(k - i, x)]).length ≤ 65536 := by have h1 := congrArg List.length HPR.out; rw [HF.out] at h1; simp at h1 ⊢; have := HLR.out; have := HZL.out; omega
            rw [runsBytes_snoc, List.length_append] at hpb
            have hb1 : (runBytes (k - i, x)).length = (V.put (k - i)).length + (V.put (zig x).toNat).length := by simp [runBytes]
            obtain ⟨z, hz⟩ : ∃ z : Nat, (zig x).toNat = z := ⟨_, rfl⟩
            obtain ⟨hz1, hz2⟩ := zig_nat hx
            rw [hz] at hz1 hz2 hb1
            have HL1 : Hid ((runsBytes pre).length + (V.put (k - i)).length + (V.put z).length ≤ 1310720) := Lib.hid (by omega)
            have HZB : Hid (runsBytes (pre ++ [(k - i, x)]) = runsBytes pre ++ V.put (k - i) ++ V.put z) := Lib.hid (by rw [runsBytes_snoc, runBytes, ← hz]; simp)
            have HPN : Hid ((pre ++ [(k - i, x)]) ++ runs (zs.drop k) = runs zs) := Lib.hid (by rw [← HPR.out, HF.out]; simp)
            have HP1 := Lib.hid (fun W => rput_any (k - i) W hk2)
            have HP2 := Lib.hid (fun W => rput_any z W hz2)
            have HZ : Hid (∀ W, Calls Try.prog 21 #[.int .i64 x] W fun e w' => e = .returned (.int .u64 (z : Int)) ∧ W = w') := Lib.hid fun W => by rw [hz1]; exact rzig_any x W hx.1 hx.2
            have hsub : IntKind.u64.wrap ((k : Int) - (i : Int)) = ((k - i : Nat) : Int) := by rw [u64_wrap_of _ (by omega) (by omega)]; omega
            clear hmem hk1 hk2 hx hpb hlp hb1 hz hz1 hz2 HF
            go_wp2_with fail
            go_quiet (fail)
            rw [World.drewN_drewN]
            generalize mq + nq = q
            clear ck hy hxy
            go_wp2_with fail
            refine (HP1.out _).mono ?_
            rintro e w1 ⟨A1, c1, rfl, own1, hB1⟩
            have hB1' : Below w.heap.size w w1 := (blw_draw HB.out q).trans (hB1.mono HB.out.size)
            have r1 : w1.ownsRow w.heap.size 5 1 (.slice Av (runsBytes pre).length cv) (runsBytes pre).length (by8 (runsBytes pre)) := own_heap HOWN.out fun g eg => hB1.block g (HOWN.out.lt g eg).2
            go_wp2_with (at_builtin; refine wpList_app _ rfl (.tmp 28) (.tmp 33) 24 rfl w w.heap.size 5 (.int .u8 0) 1 1 Try.underlying24 info5 rfl (by decide) _ _ _ rfl r1 w1.heap.size A1 _ c1 (by8 (V.put (k - i))) rfl (Rd.of_own own1) (by8_one' _) (by have := HL1.out; unfold maxLen; omega) (by have := HL1.out; omega) hB1' (Nat.le_refl _) ?_)
            intro A2 c2 w2 own2 hg2 hB2
            rw [← by8_append] at own2
            have ci2 : w2.cell? ⟨b, off + i, none⟩ = some (.int .i64 x) := (hB2.cell (p := ⟨b, off + i, none⟩) hb).trans (CW.out i x HXI.out)
            clear own1 hB1 hB1' r1 hg2
            go_wp2_with fail
            refine (HZ.out _).mono ?_
            rintro e w3 ⟨rfl, rfl⟩
            go_wp2_with fail
            refine (HP2.out _).mono ?_
            rintro e w4 ⟨A4, c4, rfl, own4, hB4⟩
            have hB4' : Below w.heap.size w w4 := hB2.trans (hB4.mono hB2.size)
            have r4 := own_heap own2 fun g eg => hB4.block g (own2.lt g eg).2
            go_wp2_with (at_builtin; refine wpList_app _ rfl (.tmp 35) (.tmp 41) 24 rfl w w.heap.size 5 (.int .u8 0) 1 1 Try.underlying24 info5 rfl (by decide) _ _ _ rfl r4 w4.heap.size A4 _ c4 (by8 (V.put z)) rfl (Rd.of_own own4) (by8_one' _) (by have := HL1.out; unfold maxLen; omega) (by have := HL1.out; omega) hB4' (Nat.le_refl _) ?_)
            intro A5 c5 w5 own5 hg5 hB5
            rw [← by8_append] at own5
            clear own2 own4 hB4 hB4' r4 hg5 hB2 ci2
            go_wp2_with fail
            go_roundw
            case rel => exact ⟨k, _, A5, c5, rfl, by omega, HPN.out, by rw [HZB.out, List.length_append, List.length_append], by rw [HZB.out, List.length_append, List.length_append]; exact own5, hB5⟩
            case measure => simp [intOf]; omega
        · have hik : i < k := by omega
          have gkm : decide (k < len) = false := by simp; omega
          have HF : Hid (runs (zs.drop i) = (k - i, x) :: runs (zs.drop k)) := Lib.hid (runs_at hik (by have := HZL.out; omega) hall.out (.inl (by have := HZL.out; omega)))
          have hmem : (k - i, x) ∈ runs zs := by rw [← HPR.out, HF.out]; simp
          obtain ⟨hk1, hk2, hx⟩ := HA.out _ hmem
          simp only at hk1 hk2 hx
          have hpb := runsBytes_len (pre ++ [(k - i, x)]) (fun p hp => (HA.out p (by rw [← HPR.out, HF.out]; simp at hp ⊢; rcases hp with hp | hp; exact .inl hp; exact .inr (.inl hp))).2)
          have hlp : (pre ++ [(k - i, x)]).length ≤ 65536 := by have h1 := congrArg List.length HPR.out; rw [HF.out] at h1; simp at h1 ⊢; have := HLR.out; have := HZL.out; omega
          rw [runsBytes_snoc, List.length_append] at hpb
          have hb1 : (runBytes (k - i, x)).length = (V.put (k - i)).length + (V.put (zig x).toNat).length := by simp [runBytes]
          obtain ⟨z, hz⟩ : ∃ z : Nat, (zig x).toNat = z := ⟨_, rfl⟩
          obtain ⟨hz1, hz2⟩ := zig_nat hx
          rw [hz] at hz1 hz2 hb1
          have HL1 : Hid ((runsBytes pre).length + (V.put (k - i)).length + (V.put z).length ≤ 1310720) := Lib.hid (by omega)
          have HZB : Hid (runsBytes (pre ++ [(k - i, x)]) = runsBytes pre ++ V.put (k - i) ++ V.put z) := Lib.hid (by rw [runsBytes_snoc, runBytes, ← hz]; simp)
          have HPN : Hid ((pre ++ [(k - i, x)]) ++ runs (zs.drop k) = runs zs) := Lib.hid (by rw [← HPR.out, HF.out]; simp)
          have HP1 := Lib.hid (fun W => rput_any (k - i) W hk2)
          have HP2 := Lib.hid (fun W => rput_any z W hz2)
          have HZ : Hid (∀ W, Calls Try.prog 21 #[.int .i64 x] W fun e w' => e = .returned (.int .u64 (z : Int)) ∧ W = w') := Lib.hid fun W => by rw [hz1]; exact rzig_any x W hx.1 hx.2
          have hsub : IntKind.u64.wrap ((k : Int) - (i : Int)) = ((k - i : Nat) : Int) := by rw [u64_wrap_of _ (by omega) (by omega)]; omega
          clear hmem hk1 hk2 hx hpb hlp hb1 hz hz1 hz2 HF
          go_wp2_with fail
          go_quiet (fail)
          rw [World.drewN_drewN]
          generalize mq + nq = q
          clear gkm
          go_wp2_with fail
          refine (HP1.out _).mono ?_
          rintro e w1 ⟨A1, c1, rfl, own1, hB1⟩
          have hB1' : Below w.heap.size w w1 := (blw_draw HB.out q).trans (hB1.mono HB.out.size)
          have r1 : w1.ownsRow w.heap.size 5 1 (.slice Av (runsBytes pre).length cv) (runsBytes pre).length (by8 (runsBytes pre)) := own_heap HOWN.out fun g eg => hB1.block g (HOWN.out.lt g eg).2
          go_wp2_with (at_builtin; refine wpList_app _ rfl (.tmp 28) (.tmp 33) 24 rfl w w.heap.size 5 (.int .u8 0) 1 1 Try.underlying24 info5 rfl (by decide) _ _ _ rfl r1 w1.heap.size A1 _ c1 (by8 (V.put (k - i))) rfl (Rd.of_own own1) (by8_one' _) (by have := HL1.out; unfold maxLen; omega) (by have := HL1.out; omega) hB1' (Nat.le_refl _) ?_)
          intro A2 c2 w2 own2 hg2 hB2
          rw [← by8_append] at own2
          have ci2 : w2.cell? ⟨b, off + i, none⟩ = some (.int .i64 x) := (hB2.cell (p := ⟨b, off + i, none⟩) hb).trans (CW.out i x HXI.out)
          clear own1 hB1 hB1' r1 hg2
          go_wp2_with fail
          refine (HZ.out _).mono ?_
          rintro e w3 ⟨rfl, rfl⟩
          go_wp2_with fail
          refine (HP2.out _).mono ?_
          rintro e w4 ⟨A4, c4, rfl, own4, hB4⟩
          have hB4' : Below w.heap.size w w4 := hB2.trans (hB4.mono hB2.size)
          have r4 := own_heap own2 fun g eg => hB4.block g (own2.lt g eg).2
          go_wp2_with (at_builtin; refine wpList_app _ rfl (.tmp 35) (.tmp 41) 24 rfl w w.heap.size 5 (.int .u8 0) 1 1 Try.underlying24 info5 rfl (by decide) _ _ _ rfl r4 w4.heap.size A4 _ c4 (by8 (V.put z)) rfl (Rd.of_own own4) (by8_one' _) (by have := HL1.out; unfold maxLen; omega) (by have := HL1.out; omega) hB4' (Nat.le_refl _) ?_)
          intro A5 c5 w5 own5 hg5 hB5
          rw [← by8_append] at own5
          clear own2 own4 hB4 hB4' r4 hg5 hB2 ci2
          go_wp2_with fail
          go_roundw
          case rel => exact ⟨k, _, A5, c5, rfl, by omega, HPN.out, by rw [HZB.out, List.length_append, List.length_append], by rw [HZB.out, List.length_append, List.length_append]; exact own5, hB5⟩
          case measure => simp [intOf]; omega
    · obtain rfl : i = len := by omega
      have hnil : zs.drop i = [] := List.drop_eq_nil_of_le (by have := HZL.out; omega)
      have hpre : pre = runs zs := by have := HPR.out; rw [hnil, runs_nil] at this; simpa using this
      have HPE := Lib.hid hpre
      clear hnil hpre
      go_wp2_with fail
      go_ret
      have e := HPE.out
      subst e
      exact ⟨Av, cv, rfl, HOWN.out, HB.out⟩
end Go.Proofs.Ytokpcpopibpebaa
