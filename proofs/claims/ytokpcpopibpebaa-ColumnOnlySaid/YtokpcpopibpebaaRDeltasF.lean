/-
  The contracts of the reference's Deltas and of its two comparings.
-/
import Derived.Test.YtokpcpopibpebaaDeltasF
import Derived.Test.YtokpcpopibpebaaRBoolsF
import Derived.Deep.RegionLaw
namespace Go.Proofs.Ytokpcpopibpebaa
open Go Go.RowKit
set_option linter.unusedVariables false
set_option linter.unusedSimpArgs false

theorem take_delta {zs : List Int} {i : Nat} {d : Int} (h : (delta zs)[i]? = some d) : i64s ((delta zs).take i) ++ [Value.int .i64 d] = i64s ((delta zs).take (i + 1)) := by
  obtain ⟨hi, rfl⟩ := List.getElem?_eq_some_iff.1 h
  rw [List.take_succ_eq_append_getElem hi, i64s_append]
  rfl
theorem wrap_u_sub {x y : Int} (hx : InI x) (hy : InI y) : wrap64 (IntKind.u64.wrap (IntKind.u64.wrap y - IntKind.u64.wrap x)) = wrap64 (y - x) := by
  rw [IntKind.wrap_u64, IntKind.wrap_u64, IntKind.wrap_u64]
  unfold wrap64
  omega

set_option maxRecDepth 100000 in
set_option maxHeartbeats 2000000 in
theorem rdeltas_any (A : Option Addr) (len cap : Nat) (zs : List Int) (hlen : len ≤ 65536) (hcap : len ≤ cap) (hmax : cap ≤ maxLen) (hz : ∀ x ∈ zs, InI x) (w : World) (hR : Rd w w.heap.size 1 A len (i64s zs)) :
    Calls Try.prog 30 #[.slice A len cap] w (Made8 (runsBytes (runs (delta zs))) w) := by
  have hzl : zs.length = len := by have := hR.len1; rwa [i64s_len] at this
  have HR := Lib.hid hR
  have HZL := Lib.hid hzl
  have HZ := Lib.hid hz
  clear hz hR hzl
  go_enter Try.func30, Try.ntmps30
  go_wp2_with fail
  go_loopw [3, 4] (fun s3 s4 wr => ∃ (i : Nat) (Av : Option Addr) (cv : Nat), s4 = .int .i64 i ∧ i ≤ len ∧ s3 = .slice Av i cv ∧ Hid (wr.ownsRow w.heap.size 3 1 (.slice Av i cv) i (i64s ((delta zs).take i))) ∧ Hid (Below w.heap.size w wr)) (fun _ s4 _ => len - (intOf s4).toNat)
  case atStart => exact ⟨0, none, 0, rfl, Nat.zero_le _, rfl, Lib.hid (World.ownsRow_nil _ _ _ _), Lib.hid (Below.refl _ _)⟩
  case round =>
    obtain ⟨j, Av, cv, rfl, hj, rfl, HO, HB⟩ := hrel
    by_cases hlt : j < len
    · obtain ⟨b, off, rfl, hb, hcs⟩ := HR.out.at_ (Nat.lt_of_le_of_lt (Nat.zero_le _) hlt)
      by_cases hj0 : j = 0
      · subst hj0
        obtain ⟨x, hx⟩ : ∃ x, zs[0]? = some x := ⟨zs[0]'(by rw [HZL.out]; exact hlt), List.getElem?_eq_getElem _⟩
        have cx : wr.cell? ⟨b, off, none⟩ = some (.int .i64 x) := (HB.out.cell (p := ⟨b, off, none⟩) hb).trans (hcs 0 _ (i64s_at hx))
        have HD := Lib.hid (take_delta (delta_zero hx))
        have gl : (0 : Int) < (len : Int) := by omega
        clear hx hcs
        go_wp2_with (at_builtin; refine wpList_app1 _ rfl (.tmp 13) (.tmp 18) 38 rfl w w.heap.size 3 (.int .i64 0) 8 Try.underlying38 info3 rfl wr (.int .i64 x) rfl rfl _ _ _ rfl HO.out rfl (by unfold maxLen; omega) (by omega) HB.out (Nat.le_refl _) ?_)
        intro A1 c1 w1 own1 hg1 hB1
        have HO1 : Hid (w1.ownsRow w.heap.size 3 1 (.slice A1 1 c1) 1 (i64s ((delta zs).take 1))) := Lib.hid (by rw [← HD.out]; exact own1)
        have HB1 := Lib.hid hB1
        clear own1 hB1 hg1
        go_wp2_with fail
        go_roundw
        case rel => exact ⟨1, A1, c1, by go_num, by omega, rfl, HO1, HB1⟩
        case measure => simp [intOf]; omega
      · obtain ⟨i, rfl⟩ : ∃ i, j = i + 1 := ⟨j - 1, by omega⟩
        obtain ⟨x, hx⟩ : ∃ x, zs[i]? = some x := ⟨zs[i]'(by rw [HZL.out]; omega), List.getElem?_eq_getElem _⟩
        obtain ⟨y, hy⟩ : ∃ y, zs[i + 1]? = some y := ⟨zs[i + 1]'(by rw [HZL.out]; omega), List.getElem?_eq_getElem _⟩
        have cx : wr.cell? ⟨b, off + i, none⟩ = some (.int .i64 x) := (HB.out.cell (p := ⟨b, off + i, none⟩) hb).trans (hcs i _ (i64s_at hx))
        have cy : wr.cell? ⟨b, off + (i + 1), none⟩ = some (.int .i64 y) := (HB.out.cell (p := ⟨b, off + (i + 1), none⟩) hb).trans (hcs (i + 1) _ (i64s_at hy))
        have HD := Lib.hid (take_delta (delta_at hx hy))
        have HU : Hid (wrap64 (IntKind.u64.wrap (IntKind.u64.wrap y - IntKind.u64.wrap x)) = wrap64 (y - x)) := Lib.hid (wrap_u_sub (HZ.out x (List.mem_of_getElem? hx)) (HZ.out y (List.mem_of_getElem? hy)))
        have k1 : (0 : Int) ≤ (i : Int) := by omega
        have k2 : (i : Int) + 1 < (len : Int) := by omega
        have k3 : (i : Int) < (len : Int) := by omega
        have k4 : (0 : Int) ≤ (i : Int) + 1 := by omega
        have k5 : ((i : Int) + 1).toNat = i + 1 := by omega
        have hw1 : IntKind.i64.wrap (i : Int) = (i : Int) := IntWalk.i64_in _ (by omega)
        have hneb : ¬ b = wr.heap.size := by have := HB.out.size; omega
        obtain ⟨d, hd⟩ : ∃ d, IntKind.i64.wrap (IntKind.u64.wrap (IntKind.u64.wrap y - IntKind.u64.wrap x)) = d := ⟨_, rfl⟩
        rw [← IntWalk.i64_left, hd] at HU
        rw [← HU.out] at HD
        clear hx hy hcs
        go_wp2_with fail
        have HOA : Hid ((wr.drew.alloc (.cells #[.int .i64 d] 3)).ownsRow w.heap.size 3 1 (.slice Av (i + 1) cv) (i + 1) (i64s ((delta zs).take (i + 1)))) := Lib.hid (HO.out.drew.alloc _)
        have HRA : Hid (Rd (wr.drew.alloc (.cells #[.int .i64 d] 3)) (wr.heap.size + 1) 1 (some ⟨wr.heap.size, 0, none⟩) 1 [.int .i64 d]) := Lib.hid (rd_alloc wr.drew #[.int .i64 d] 3 (0, 0) 1 1 rfl)
        have HBS : Hid (w.heap.size ≤ (wr.drew.alloc (.cells #[.int .i64 d] 3)).heap.size) := Lib.hid (by have := HB.out.size; simp; omega)
        have HBB : Hid (Below w.heap.size w (wr.drew.alloc (.cells #[.int .i64 d] 3))) := Lib.hid (HB.out.drew.alloc HB.out.size _)
        have HLO := Lib.hid HO.out.lt
        go_region_law (refine step_app rfl (.tmp 20) (.tmp 34) 38 rfl w.heap.size 3 (.int .i64 0) 1 8 Try.underlying38 info3 rfl (by decide) _ _ _ rfl HOA.out _ _ _ _ _ rfl HRA.out (i64s_one [d]) (by unfold maxLen; omega) (by omega) HBS.out ?_; intro A1 c1 w1 own1 hg1 hat1)
        all_goals
          have HO1 : Hid (w1.ownsRow w.heap.size 3 1 (.slice A1 (i + 1 + 1) c1) (i + 1 + 1) (i64s ((delta zs).take (i + 1 + 1)))) := Lib.hid (by rw [← HD.out]; exact own1)
          have HB1 := Lib.hid (HBB.out.grown hg1 HBS.out fun g eg => (HLO.out g eg).1)
          clear own1 hg1 hat1
          go_wp2_with fail
          go_roundw
          case rel => exact ⟨i + 1 + 1, A1, c1, by go_num, by omega, by rfl, HO1, HB1⟩
          case measure => simp [intOf]; omega
    · obtain rfl : j = len := by omega
      have own := HO.out
      rw [List.take_of_length_le (by rw [delta_len]; have := HZL.out; omega)] at own
      have hc1 := own_cap own
      have hrun := rruns_any Av j cv (delta zs) hlen hc1.1 hc1.2 (delta_InI HZ.out) wr (Rd.of_own own)
      have HRU := Lib.hid hrun
      clear hrun own
      go_wp2_with fail
      refine HRU.out.mono ?_
      rintro e w5 ⟨A5, c5, rfl, own5, hB5⟩
      have HO5 := Lib.hid own5
      have HB5 := Lib.hid hB5
      clear own5 hB5
      go_wp2_with fail
      go_ret
      exact ⟨A5, c5, rfl, own_rebase HO5.out HB.out.size, HB.out.trans (HB5.out.mono HB.out.size)⟩
end Go.Proofs.Ytokpcpopibpebaa
