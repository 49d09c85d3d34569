/-
  The contract of the reference's TakeDeltas.
-/
import Derived.Test.YtokpcpopibpebaaTakeDeltasF
namespace Go.Proofs.Ytokpcpopibpebaa
open Go Go.RowKit
set_option linter.unusedVariables false
set_option linter.unusedSimpArgs false

/-- the sum so far, kept modulo 2^64, reads as the last value -/
structure SumAt (W : World) (zs : List Int) (i : Nat) (s : Int) (Av : Option Addr) (cv : Nat) (w : World) : Prop where
  own : w.ownsRow W.heap.size 3 1 (.slice Av i cv) i (i64s ((undelta zs).take i))
  below : Below W.heap.size W w
  sum : (i = 0 ∧ s = 0) ∨ ∃ q, i = q + 1 ∧ (undelta zs)[q]? = some (wrap64 s)
  lo : 0 ≤ s
  hi : s < 18446744073709551616
theorem wrap_u_add {s x y : Int} (h : wrap64 s = x) : wrap64 (IntKind.u64.wrap (s + IntKind.u64.wrap y)) = wrap64 (y + x) := by
  subst h
  rw [IntKind.wrap_u64, IntKind.wrap_u64]
  unfold wrap64
  omega
theorem SumAt.next {W w : World} {zs : List Int} {i : Nat} {s y : Int} {Av : Option Addr} {cv : Nat} (h : SumAt W zs i s Av cv w) (hy : zs[i]? = some y) (hyI : InI y) :
    (undelta zs)[i]? = some (wrap64 (IntKind.u64.wrap (s + IntKind.u64.wrap y))) := by
  rcases h.sum with ⟨rfl, rfl⟩ | ⟨q, rfl, hq⟩
  · rw [undelta_zero hy]
    congr 1
    unfold InI at hyI
    rw [IntKind.wrap_u64, IntKind.wrap_u64]
    unfold wrap64
    omega
  · rw [undelta_at hq hy, wrap_u_add rfl]

set_option maxRecDepth 100000 in
set_option maxHeartbeats 4000000 in
theorem rtakedeltas_any (A : Option Addr) (len c : Nat) (b : List Nat) (n : Int) (hn1 : -9223372036854775808 ≤ n) (hn2 : n < 9223372036854775808) (W : World) (hR : Rd W W.heap.size 1 A len (by8 b)) (hb : ∀ x ∈ b, x < 256) (hlen : len ≤ 1000000) (hcap : len ≤ c) (hmax : c ≤ maxLen) :
    Calls Try.prog 37 #[.slice A len c, .int .i64 n] W (Answer 3 (Value.int .i64) (badN n) (takenD b n.toNat) W) := by
  have HT := Lib.hid (rtakeruns_any A len c b n hn1 hn2 W hR hb hlen hcap hmax)
  obtain ⟨bad, hbad⟩ : ∃ x, badN n = x := ⟨_, rfl⟩
  obtain ⟨ans, hans⟩ : ∃ x, takenI b n.toNat = x := ⟨_, rfl⟩
  have hsm : ∀ l k, ans = some (l, k) → bad = false → l.length ≤ 65536 ∧ ∀ x ∈ l, InI x := fun l k h hb' => by
    rw [← hans] at h
    unfold takenI at h
    cases hp : parse b n.toNat none with
    | none => rw [hp] at h; cases h
    | some ps =>
      rw [hp] at h
      simp only [Option.map_some, Option.some.injEq, Prod.mk.injEq] at h
      obtain ⟨_, h2, h3, _⟩ := parse_some hb hp
      have hnn : n.toNat ≤ 65536 := by
        rw [← hbad] at hb'
        unfold badN at hb'
        simp at hb'
        omega
      rw [← h.1]
      exact ⟨by omega, expand_InI fun p hp => (h3 p hp).2.2⟩
  have HSM := Lib.hid hsm
  rw [takenD_eq, hans, hbad]
  rw [hans, hbad] at HT
  clear hR hb hsm hans hbad hlen hcap hmax
  go_enter Try.func37, Try.ntmps37
  go_wp2_with fail
  refine HT.out.mono ?_
  intro e w1 hA
  obtain ⟨hB1, hc⟩ := hA.cases
  have HB1 := Lib.hid hB1
  clear hB1 hA HT
  rcases hc with ⟨rfl, rfl⟩ | ⟨rfl, rfl, rfl⟩ | ⟨rfl, zs, k, A1, c1, rfl, rfl, own1⟩
  · go_wp2_with fail
    go_ret3
    exact Answer.arg_ HB1.out
  · go_wp2_with fail
    go_ret3
    exact Answer.none_ rfl HB1.out
  · obtain ⟨hm1, hm2⟩ := HSM.out zs k rfl rfl
    obtain ⟨m, hm⟩ : ∃ m, zs.length = m := ⟨_, rfl⟩
    rw [hm] at own1 hm1 ⊢
    have hrd := Rd.of_own own1
    have HRD : Hid (Rd w1 w1.heap.size 1 A1 m (i64s zs)) := Lib.hid hrd
    have HZL := Lib.hid hm
    have HZ := Lib.hid hm2
    have hbb := HB1.out.size
    have H0 : Hid (SumAt w1 zs 0 0 none 0 w1) := Lib.hid ⟨World.ownsRow_nil _ _ _ _, Below.refl _ _, .inl ⟨rfl, rfl⟩, Int.le_refl _, by omega⟩
    clear own1 hm hm2 HSM hrd
    go_wp2_with fail
    go_loopw [10, 11, 12] (fun s10 s11 s12 wr => ∃ (i : Nat) (s : Int) (Av : Option Addr) (cv : Nat), s12 = .int .i64 i ∧ s11 = .int .u64 s ∧ s10 = .slice Av i cv ∧ i ≤ m ∧ Hid (SumAt w1 zs i s Av cv wr)) (fun _ _ s12 _ => m - (intOf s12).toNat)
    case atStart => exact ⟨0, 0, none, 0, rfl, rfl, rfl, Nat.zero_le _, H0⟩
    case round =>
      obtain ⟨i, s, Av, cv, rfl, rfl, rfl, hi, HA⟩ := hrel
      by_cases hlt : i < m
      · obtain ⟨y, hy⟩ : ∃ y, zs[i]? = some y := ⟨zs[i]'(by rw [HZL.out]; exact hlt), List.getElem?_eq_getElem _⟩
        obtain ⟨b1, off, rfl, hb1, hcs⟩ := HRD.out.at_ (Nat.lt_of_le_of_lt (Nat.zero_le _) hlt)
        have cy : wr.cell? ⟨b1, off + i, none⟩ = some (.int .i64 y) := (HA.out.below.cell (p := ⟨b1, off + i, none⟩) hb1).trans (hcs i _ (i64s_at hy))
        have hnx := HA.out.next hy (HZ.out y (List.mem_of_getElem? hy))
        obtain ⟨s', hs'⟩ : ∃ s', IntKind.u64.wrap (s + IntKind.u64.wrap y) = s' := ⟨_, rfl⟩
        have hlo : 0 ≤ s' ∧ s' < 18446744073709551616 := by rw [← hs', IntKind.wrap_u64]; omega
        obtain ⟨v, hv⟩ : ∃ v, IntKind.i64.wrap s' = v := ⟨_, rfl⟩
        rw [hs', ← IntWalk.i64_left, hv] at hnx
        have HNX := Lib.hid hnx
        have HTK : Hid (i64s ((undelta zs).take i) ++ [Value.int .i64 v] = i64s ((undelta zs).take (i + 1))) := Lib.hid (by
          obtain ⟨h1, h2⟩ := List.getElem?_eq_some_iff.1 hnx
          rw [List.take_succ_eq_append_getElem h1, i64s_append, h2]; rfl)
        have HLO := Lib.hid hlo
        have HVV : Hid (v = wrap64 s') := Lib.hid (by rw [← hv, IntWalk.i64_left])
        have k1 : (0 : Int) ≤ (i : Int) := by omega
        have k2 : (i : Int) < (m : Int) := by omega
        have hlo1 := hlo.1
        have hlo2 := hlo.2
        clear hy hcs hnx hlo
        go_wp2_with (at_builtin; refine wpList_app1 _ rfl (.tmp 36) (.tmp 39) 38 rfl w1 w1.heap.size 3 (.int .i64 0) 8 Try.underlying38 info3 rfl wr (.int .i64 v) rfl rfl _ _ _ rfl HA.out.own rfl (by unfold maxLen; omega) (by omega) HA.out.below (Nat.le_refl _) ?_)
        intro A5 c5 w5 own5 hg5 hB5
        rw [HTK.out] at own5
        have HA5 : Hid (SumAt w1 zs (i + 1) s' A5 c5 w5) := Lib.hid ⟨own5, hB5, .inr ⟨i, rfl, by rw [← HVV.out]; exact HNX.out⟩, HLO.out.1, HLO.out.2⟩
        clear own5 hg5 hB5 cy
        go_wp2_with fail
        go_roundw
        case rel => exact ⟨i + 1, s', A5, c5, by go_num, rfl, by rfl, by omega, HA5⟩
        case measure => simp [intOf]; omega
      · obtain rfl : i = m := by omega
        have own5 := HA.out.own
        rw [List.take_of_length_le (by rw [undelta_len, HZL.out]; exact Nat.le_refl _)] at own5
        have O5 := Lib.hid own5
        clear own5
        go_wp2_with fail
        go_ret3
        exact Answer.some_ rfl (by rw [undelta_len, HZL.out]) rfl (HB1.out.trans (HA.out.below.mono hbb)) (own_rebase O5.out hbb)
end Go.Proofs.Ytokpcpopibpebaa
