/-
  The contract of the reference's Bools.
-/
import Derived.Test.YtokpcpopibpebaaRRunsF
namespace Go.Proofs.Ytokpcpopibpebaa
open Go Go.RowKit
set_option linter.unusedVariables false
set_option linter.unusedSimpArgs false

def boolOf : Value → Bool | .bool b => b | _ => false
theorem lead_at {α : Type} [DecidableEq α] {zs : List α} {i k : Nat} {x : α} (hik : i ≤ k) (hk : k ≤ zs.length) (h : ∀ j, i ≤ j → j < k → zs[j]? = some x) (h' : k = zs.length ∨ ∃ y, zs[k]? = some y ∧ y ≠ x) :
    lead x (zs.drop i) = k - i := by
  refine lead_all x _ (k - i) (fun j hj => by rw [List.getElem?_drop]; exact h _ (by omega) (by omega)) ?_
  rcases h' with h' | ⟨y, h1, h2⟩
  · left; simp; omega
  · right; exact ⟨y, by rw [List.getElem?_drop, show i + (k - i) = k by omega]; exact h1, h2⟩

set_option maxRecDepth 100000 in
set_option maxHeartbeats 2000000 in
theorem rbools_any (A : Option Addr) (len cap : Nat) (zs : List Bool) (hlen : len ≤ 65536) (hcap : len ≤ cap) (hmax : cap ≤ maxLen) (w : World) (hR : Rd w w.heap.size 1 A len (bls zs)) :
    Calls Try.prog 32 #[.slice A len cap] w (Made8 (boolBytes zs) w) := by
  have hzl : zs.length = len := by have := hR.len1; rwa [bls_len] at this
  have hrl := runs_len zs
  have HLR := Lib.hid hrl
  have HZL := Lib.hid hzl
  have HR := Lib.hid hR
  clear hR hzl hrl
  go_enter Try.func32, Try.ntmps32
  go_wp2_with fail
  go_loopw [3, 4, 5, 6] (fun s3 s4 s5 s6 wr => ∃ (i : Nat) (v : Bool) (pre : List Nat) (Av : Option Addr) (cv : Nat), s5 = .int .i64 i ∧ s4 = .bool v ∧ i ≤ len ∧ pre ++ cntsV v (zs.drop i) = cntsV false zs ∧ s3 = .slice Av (puts pre).length cv ∧ wr.ownsRow w.heap.size 5 1 (.slice Av (puts pre).length cv) (puts pre).length (by8 (puts pre)) ∧ Below w.heap.size w wr)
    (fun _ s4 s5 _ _ => 2 * (len - (intOf s5).toNat) + (if zs[(intOf s5).toNat]? = some (!(boolOf s4)) then 1 else 0))
  case atStart => exact ⟨0, false, [], none, 0, rfl, rfl, Nat.zero_le _, rfl, rfl, World.ownsRow_nil _ _ _ _, Below.refl _ _⟩
  case round =>
    obtain ⟨i, v, pre, Av, cv, rfl, rfl, hi, hpr, rfl, hown, hB⟩ := hrel
    have HPR := Lib.hid hpr
    have HOWN := Lib.hid hown
    have HB := Lib.hid hB
    clear hpr hown hB
    by_cases hlt : i < len
    · obtain ⟨b, off, rfl, hb, hcs⟩ := HR.out.at_ (Nat.lt_of_le_of_lt (Nat.zero_le _) hlt)
      have HCS : Hid (∀ j y, zs[j]? = some y → wr.cell? ⟨b, off + j, none⟩ = some (Value.bool y)) := Lib.hid fun j y hy => (HB.out.cell (p := ⟨b, off + j, none⟩) hb).trans (hcs j _ (bls_at hy))
      clear hcs
      have i1 : (0 : Int) ≤ (i : Int) := by omega
      have i2 : (i : Int) < (len : Int) := by omega
      go_wp2_with fail
      go_loopw [6] (fun s wq => ∃ k : Nat, s = .int .i64 k ∧ i ≤ k ∧ k ≤ len ∧ Hid (∀ j, i ≤ j → j < k → zs[j]? = some v) ∧ wq = wr) (fun s _ => len - (intOf s).toNat)
      case atStart => exact ⟨i, rfl, Nat.le_refl _, hi, Lib.hid fun j h1 h2 => by omega, rfl⟩
      case round =>
        obtain ⟨k, rfl, h1k, hkm, hall, rfl⟩ := hrel
        have hki : (0 : Int) ≤ (k : Int) := by omega
        by_cases hlk : k < len
        · obtain ⟨y, hy⟩ : ∃ y, zs[k]? = some y := ⟨zs[k]'(by rw [HZL.out]; exact hlk), List.getElem?_eq_getElem _⟩
          have ck : wr.cell? ⟨b, off + k, none⟩ = some (Value.bool y) := HCS.out k y hy
          have ik : (k : Int) < (len : Int) := by omega
          by_cases hxy : y = v
          · have HY2 : Hid (∀ j, i ≤ j → j < k + 1 → zs[j]? = some v) := Lib.hid fun j h1 h2 => by
              rcases Nat.lt_or_ge j k with h | h
              · exact hall.out j h1 h
              · obtain rfl : j = k := by omega
                rw [hy, hxy]
            subst hxy
            clear hy
            have gyy : (y == y) = true := by simp
            go_wp2_with fail
            go_roundw
            case rel => exact ⟨k + 1, by go_num, by omega, by omega, HY2, trivial⟩
            case measure => simp [intOf]; omega
          · have gxy : (y == v) = false := by simpa using hxy
            have hld : lead v (zs.drop i) = k - i := lead_at h1k (by have := HZL.out; omega) hall.out (.inr ⟨y, hy, hxy⟩)
            have hst := cntsV_step (v := v) (l := zs.drop i) (by intro e; have := congrArg List.length e; simp at this; have := HZL.out; omega)
            rw [hld, List.drop_drop, show i + (k - i) = k by omega] at hst
            have HPN : Hid ((pre ++ [k - i]) ++ cntsV (!v) (zs.drop k) = cntsV false zs) := Lib.hid (by rw [← HPR.out, hst]; simp)
            have hall2 : ∀ j ∈ pre ++ [k - i], j < 18446744073709551616 := fun j hj => by
              have h1 : j ∈ cntsV false zs := by rw [← HPN.out]; exact List.mem_append_left _ hj
              have := mem_le_sum _ j h1
              rw [cnts_sum] at this
              have := HZL.out
              omega
            have hk2 := hall2 (k - i) (by simp)
            have hpb := puts_len (pre ++ [k - i]) hall2
            have hlp : (pre ++ [k - i]).length ≤ 65537 := by
              have h1 := congrArg List.length HPN.out
              have h2 := cntsR_len (runs zs)
              rw [cntsR_runs] at h2
              rw [List.length_append] at h1
              have := HLR.out; have := HZL.out; omega
            rw [puts_snoc] at hpb
            simp only [List.length_append, List.length_cons, List.length_nil] at hpb hlp
            have HL1 : Hid ((puts pre).length + (V.put (k - i)).length ≤ 1310720) := Lib.hid (by omega)
            have HP1 := Lib.hid (fun W => rput_any (k - i) W hk2)
            have HME : Hid (2 * (len - k) + (if zs[k]? = some (!(!v)) then 1 else 0) < 2 * (len - i) + (if zs[i]? = some (!v) then 1 else 0)) := Lib.hid (by
              have hyv : y = !v := by cases y <;> cases v <;> simp at hxy ⊢
              rw [hy, hyv]
              rcases Nat.lt_or_ge i k with h | h
              · split <;> split <;> omega
              · obtain rfl : i = k := by omega
                rw [hy, hyv]; simp)
            have hsub : IntKind.u64.wrap ((k : Int) - (i : Int)) = ((k - i : Nat) : Int) := by rw [u64_wrap_of _ (by omega) (by omega)]; omega
            clear hk2 hpb hlp hld hst hall2
            go_wp2_with fail
            skip
            clear ck hy hxy gxy
            go_wp2_with fail
            refine (HP1.out _).mono ?_
            rintro e w1 ⟨A1, c1, rfl, own1, hB1⟩
            have hB1' : Below w.heap.size w w1 := HB.out.trans (hB1.mono HB.out.size)
            have r1 : w1.ownsRow w.heap.size 5 1 (.slice Av (puts pre).length cv) (puts pre).length (by8 (puts pre)) := own_heap HOWN.out fun g eg => hB1.block g (HOWN.out.lt g eg).2
            go_wp2_with (at_builtin; refine wpList_app _ rfl (.tmp 26) (.tmp 31) 24 rfl w w.heap.size 5 (.int .u8 0) 1 1 Try.underlying24 info5 rfl (by decide) _ _ _ rfl r1 w1.heap.size A1 _ c1 (by8 (V.put (k - i))) rfl (Rd.of_own own1) (by8_one' _) (by have := HL1.out; unfold maxLen; omega) (by have := HL1.out; omega) hB1' (Nat.le_refl _) ?_)
            intro A2 c2 w2 own2 hg2 hB2
            rw [← by8_append, ← puts_snoc] at own2
            clear own1 hB1 hB1' r1 hg2
            go_wp2_with fail
            go_roundw
            case rel => exact ⟨k, !v, pre ++ [k - i], A2, c2, rfl, rfl, by omega, HPN.out, by rw [puts_snoc, List.length_append], by rw [puts_snoc, List.length_append]; rw [puts_snoc] at own2; exact own2, hB2⟩
            case measure => exact HME.out
        · have gkm : decide (k < len) = false := by simp; omega
          have hld : lead v (zs.drop i) = k - i := lead_at h1k (by have := HZL.out; omega) hall.out (.inl (by have := HZL.out; omega))
          have hst := cntsV_step (v := v) (l := zs.drop i) (by intro e; have := congrArg List.length e; simp at this; have := HZL.out; omega)
          rw [hld, List.drop_drop, show i + (k - i) = k by omega] at hst
          have HPN : Hid ((pre ++ [k - i]) ++ cntsV (!v) (zs.drop k) = cntsV false zs) := Lib.hid (by rw [← HPR.out, hst]; simp)
          have hall2 : ∀ j ∈ pre ++ [k - i], j < 18446744073709551616 := fun j hj => by
            have h1 : j ∈ cntsV false zs := by rw [← HPN.out]; exact List.mem_append_left _ hj
            have := mem_le_sum _ j h1
            rw [cnts_sum] at this
            have := HZL.out
            omega
          have hk2 := hall2 (k - i) (by simp)
          have hpb := puts_len (pre ++ [k - i]) hall2
          have hlp : (pre ++ [k - i]).length ≤ 65537 := by
            have h1 := congrArg List.length HPN.out
            have h2 := cntsR_len (runs zs)
            rw [cntsR_runs] at h2
            rw [List.length_append] at h1
            have := HLR.out; have := HZL.out; omega
          rw [puts_snoc] at hpb
          simp only [List.length_append, List.length_cons, List.length_nil] at hpb hlp
          have HL1 : Hid ((puts pre).length + (V.put (k - i)).length ≤ 1310720) := Lib.hid (by omega)
          have HP1 := Lib.hid (fun W => rput_any (k - i) W hk2)
          have HME : Hid (2 * (len - k) + (if zs[k]? = some (!(!v)) then 1 else 0) < 2 * (len - i) + (if zs[i]? = some (!v) then 1 else 0)) := Lib.hid (by
            split <;> split <;> omega)
          have hsub : IntKind.u64.wrap ((k : Int) - (i : Int)) = ((k - i : Nat) : Int) := by rw [u64_wrap_of _ (by omega) (by omega)]; omega
          clear hk2 hpb hlp hld hst hall2
          go_wp2_with fail
          skip
          clear gkm
          go_wp2_with fail
          refine (HP1.out _).mono ?_
          rintro e w1 ⟨A1, c1, rfl, own1, hB1⟩
          have hB1' : Below w.heap.size w w1 := HB.out.trans (hB1.mono HB.out.size)
          have r1 : w1.ownsRow w.heap.size 5 1 (.slice Av (puts pre).length cv) (puts pre).length (by8 (puts pre)) := own_heap HOWN.out fun g eg => hB1.block g (HOWN.out.lt g eg).2
          go_wp2_with (at_builtin; refine wpList_app _ rfl (.tmp 26) (.tmp 31) 24 rfl w w.heap.size 5 (.int .u8 0) 1 1 Try.underlying24 info5 rfl (by decide) _ _ _ rfl r1 w1.heap.size A1 _ c1 (by8 (V.put (k - i))) rfl (Rd.of_own own1) (by8_one' _) (by have := HL1.out; unfold maxLen; omega) (by have := HL1.out; omega) hB1' (Nat.le_refl _) ?_)
          intro A2 c2 w2 own2 hg2 hB2
          rw [← by8_append, ← puts_snoc] at own2
          clear own1 hB1 hB1' r1 hg2
          go_wp2_with fail
          go_roundw
          case rel => exact ⟨k, !v, pre ++ [k - i], A2, c2, rfl, rfl, by omega, HPN.out, by rw [puts_snoc, List.length_append], by rw [puts_snoc, List.length_append]; rw [puts_snoc] at own2; exact own2, hB2⟩
          case measure => exact HME.out
    · obtain rfl : i = len := by omega
      have hnil : zs.drop i = [] := List.drop_eq_nil_of_le (by have := HZL.out; omega)
      have hpre : pre = cntsV false zs := by have := HPR.out; rw [hnil] at this; simpa [cntsV, runs_nil] using this
      have HPE := Lib.hid hpre
      clear hnil hpre
      go_wp2_with fail
      go_ret
      have e := HPE.out
      subst e
      exact ⟨Av, cv, rfl, HOWN.out, HB.out⟩
end Go.Proofs.Ytokpcpopibpebaa
