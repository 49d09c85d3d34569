/-
  The contract of stemmaref19.Same: of two trees.
-/
import Derived.Test.YtcdhndhgainadaaSameF
namespace Go.Proofs.Ytcdhndhgainadaa
open Go Go.RowKit
set_option linter.unusedVariables false
set_option linter.unusedSimpArgs false

/-- what holds at the head of a round -/
structure SAt (w : World) (vs us : Array Value) (wr : World) : Prop where
  below : Below w.heap.size w wr
  one : BoxN wr w.heap.size vs 31
  two : BoxN wr (w.heap.size + 1) us 31

theorem blw_draw {B : Nat} {W w : World} (h : Below B W w) (q : Nat) : Below B W (w.drewN q) := ⟨h.os, h.tape, h.output, h.size, h.block⟩
theorem rsize_mem {l : List RT} {t : RT} (h : t ∈ l) : rsize t ≤ rsizeL l := by
  induction l with
  | nil => cases h
  | cons u us ih =>
    rw [rsizeL]
    rcases List.mem_cons.1 h with rfl | h
    · omega
    · have := ih h; omega
theorem alloc_size (w : World) (o : Obj) : (w.alloc o).heap.size = w.heap.size + 1 := Array.size_push _
theorem SAt.made (w : World) (vs us : Array Value) : SAt w vs us ((w.alloc (.cells vs 31)).alloc (.cells us 31)) := by
  refine ⟨((Below.refl _ w).alloc (Nat.le_refl _) _).alloc (by rw [alloc_size]; omega) _, (BoxN.made _ _ _).alloc _, ?_⟩
  have := BoxN.made (w.alloc (.cells vs 31)) us 31
  rwa [alloc_size] at this

set_option maxRecDepth 100000 in
set_option maxHeartbeats 4000000 in
theorem same19_any : ∀ (N : Nat) (t : RT), rsize t < N → ∀ (t' : RT) (v v' : List Value) (w : World), NdR w w.heap.size v t → NdR w w.heap.size v' t' →
    Calls Try.prog 27 #[.agg v.toArray, .agg v'.toArray] w fun e w' => ∃ b : Bool, e = .returned (.bool b) ∧ (t = t' → b = true) ∧ Below w.heap.size w w' := by
  intro N
  induction N with
  | zero => intro t h; omega
  | succ N ih =>
    intro t hN t' v v' w hT hT'
    obtain ⟨n, r, k, AA, an, ac, TA, tn, tc, A, m, c, at_, tx, ks, rfl, hP⟩ := hT.parts
    obtain ⟨n', r', k', AA', an', ac', TA', tn', tc', A', m', c', at_', tx', ks', rfl, hP'⟩ := hT'.parts
    obtain ⟨rfl, ha, hp, hk⟩ := hP
    obtain ⟨rfl, ha', hp', hk'⟩ := hP'
    have hS1 := SAt.made w #[.int .i64 n, .int .i64 r, .string k, .slice AA an ac, .slice TA tn tc, .slice A m c] #[.int .i64 n', .int .i64 r', .string k', .slice AA' an' ac', .slice TA' tn' tc', .slice A' m' c']
    have hmx : m ≤ 9223372036854775807 := by obtain ⟨zs, _, hz⟩ := hk; exact Nat.le_trans hz.cap hz.max
    have HIH := Lib.hid ih
    have HN := Lib.hid hN
    have HP := Lib.hid hp
    have HP' := Lib.hid hp'
    have HK := Lib.hid hk
    have HK' := Lib.hid hk'
    have HA := Lib.hid ha
    have HA' := Lib.hid ha'
    have HS1 := Lib.hid hS1
    clear hT hT' ih hN hp hp' hk hk' ha ha' hS1
    go_enter Try.func27, Try.ntmps27
    go_wp2_with fail
    obtain ⟨b1, hb1⟩ : ∃ b : Bool, b = decide (at_ = at_') := ⟨_, rfl⟩
    have hc1 := same15_any (HA.out.beneath HS1.out.below (Nat.le_refl _)) (HA'.out.beneath HS1.out.below (Nat.le_refl _))
    rw [← hb1] at hc1
    have HB1 := Lib.hid hb1
    clear hb1
    refine hc1.mono ?_
    rintro e w1 ⟨rfl, q1, rfl⟩
    clear hc1
    obtain ⟨W1, HW1⟩ : ∃ W, Hid (W = World.drewN ((w.alloc (.cells #[.int .i64 n, .int .i64 r, .string k, .slice AA an ac, .slice TA tn tc, .slice A m c] 31)).alloc (.cells #[.int .i64 n', .int .i64 r', .string k', .slice AA' an' ac', .slice TA' tn' tc', .slice A' m' c'] 31)) q1) := ⟨_, Lib.hid rfl⟩
    rw [← HW1.out]
    have hS2 : SAt w #[.int .i64 n, .int .i64 r, .string k, .slice AA an ac, .slice TA tn tc, .slice A m c] #[.int .i64 n', .int .i64 r', .string k', .slice AA' an' ac', .slice TA' tn' tc', .slice A' m' c'] W1 := by
      rw [HW1.out]
      exact ⟨blw_draw HS1.out.below _, HS1.out.one, HS1.out.two⟩
    have HS2 := Lib.hid hS2
    have c4 : W1.cell? ⟨w.heap.size, 4, none⟩ = some (.slice TA tn tc) := hS2.one.cell (j := 4) rfl
    have c4' : W1.cell? ⟨w.heap.size + 1, 4, none⟩ = some (.slice TA' tn' tc') := hS2.two.cell (j := 4) rfl
    clear HW1 hS2 HS1
    go_wp2_with fail
    obtain ⟨b2, hb2⟩ : ∃ b : Bool, b = decide (tx = tx') := ⟨_, rfl⟩
    have hc2 := same17_any (HP.out.beneath HS2.out.below (Nat.le_refl _)) (HP'.out.beneath HS2.out.below (Nat.le_refl _))
    rw [← hb2] at hc2
    refine hc2.mono ?_
    rintro e w1 ⟨rfl, q2, rfl⟩
    clear hc2 c4 c4'
    obtain ⟨W2, HW2⟩ : ∃ W, Hid (W = W1.drewN q2) := ⟨_, Lib.hid rfl⟩
    rw [← HW2.out]
    have hS3 : SAt w #[.int .i64 n, .int .i64 r, .string k, .slice AA an ac, .slice TA tn tc, .slice A m c] #[.int .i64 n', .int .i64 r', .string k', .slice AA' an' ac', .slice TA' tn' tc', .slice A' m' c'] W2 := by
      rw [HW2.out]
      exact ⟨blw_draw HS2.out.below _, HS2.out.one, HS2.out.two⟩
    have HS3 := Lib.hid hS3
    have d0 : W2.cell? ⟨w.heap.size, 0, none⟩ = some (.int .i64 n) := hS3.one.cell (j := 0) rfl
    have d1 : W2.cell? ⟨w.heap.size, 1, none⟩ = some (.int .i64 r) := hS3.one.cell (j := 1) rfl
    have d2 : W2.cell? ⟨w.heap.size, 2, none⟩ = some (.string k) := hS3.one.cell (j := 2) rfl
    have d5 : W2.cell? ⟨w.heap.size, 5, none⟩ = some (.slice A m c) := hS3.one.cell (j := 5) rfl
    have e0 : W2.cell? ⟨w.heap.size + 1, 0, none⟩ = some (.int .i64 n') := hS3.two.cell (j := 0) rfl
    have e1 : W2.cell? ⟨w.heap.size + 1, 1, none⟩ = some (.int .i64 r') := hS3.two.cell (j := 1) rfl
    have e2 : W2.cell? ⟨w.heap.size + 1, 2, none⟩ = some (.string k') := hS3.two.cell (j := 2) rfl
    have e5 : W2.cell? ⟨w.heap.size + 1, 5, none⟩ = some (.slice A' m' c') := hS3.two.cell (j := 5) rfl
    have HB2 := Lib.hid hb2
    clear HW2 HS2 hS3 hb2
    by_cases hn : n = n'
    case neg =>
      have HNE : Hid (RT.node n r k at_ tx ks ≠ .node n' r' k' at_' tx' ks') := Lib.hid fun e => by
        injection e with e1 e2 e3 e4 e5 e6
        exact hn e1
      have g1 : (n != n') = true := by simpa using hn
      have g2 : (n == n') = false := by simpa using hn
      go_wp2_with fail
      go_ret
      exact ⟨false, rfl, fun e => absurd e HNE.out, HS3.out.below⟩
    subst hn
    by_cases hr : r = r'
    case neg =>
      have HNE : Hid (RT.node n r k at_ tx ks ≠ .node n r' k' at_' tx' ks') := Lib.hid fun e => by
        injection e with e1 e2 e3 e4 e5 e6
        exact hr e2
      have g1 : (r != r') = true := by simpa using hr
      have g2 : (r == r') = false := by simpa using hr
      go_wp2_with fail
      go_ret
      exact ⟨false, rfl, fun e => absurd e HNE.out, HS3.out.below⟩
    subst hr
    by_cases hk : k = k'
    case neg =>
      have HNE : Hid (RT.node n r k at_ tx ks ≠ .node n r k' at_' tx' ks') := Lib.hid fun e => by
        injection e with e1 e2 e3 e4 e5 e6
        exact hk e3
      have g1 := beqs hk
      have g2 := bne_f g1
      go_wp2_with fail
      go_ret
      exact ⟨false, rfl, fun e => absurd e HNE.out, HS3.out.below⟩
    subst hk
    cases b1
    case false =>
      have HNE : Hid (RT.node n r k at_ tx ks ≠ .node n r k at_' tx' ks') := Lib.hid fun e => by
        injection e with e1 e2 e3 e4 e5 e6
        exact of_decide_eq_false HB1.out.symm e4
      go_wp2_with fail
      go_ret
      exact ⟨false, rfl, fun e => absurd e HNE.out, HS3.out.below⟩
    cases b2
    case false =>
      have HNE : Hid (RT.node n r k at_ tx ks ≠ .node n r k at_' tx' ks') := Lib.hid fun e => by
        injection e with e1 e2 e3 e4 e5 e6
        exact of_decide_eq_false HB2.out.symm e5
      go_wp2_with fail
      go_ret
      exact ⟨false, rfl, fun e => absurd e HNE.out, HS3.out.below⟩
    by_cases hm : m = m'
    case neg =>
      have HNE : Hid (RT.node n r k at_ tx ks ≠ .node n r k at_' tx' ks') := Lib.hid fun e => by
        injection e with e1 e2 e3 e4 e5 e6
        exact hm (by rw [← HK.out.length, ← HK'.out.length, e6])
      have g1 : ((m : Int) != (m' : Int)) = true := by simpa using (by omega : ¬ (m : Int) = (m' : Int))
      have g2 : ((m : Int) == (m' : Int)) = false := by simpa using (by omega : ¬ (m : Int) = (m' : Int))
      go_wp2_with fail
      go_ret
      exact ⟨false, rfl, fun e => absurd e HNE.out, HS3.out.below⟩
    subst hm
    go_wp2_with fail
    clear d0 d1 d2 e0 e1 e2 d5 e5
    go_loopw [7, 8] (fun s7 s8 wr => ∃ j : Nat, j ≤ m ∧ s7 = .int .i64 j ∧ SAt w #[.int .i64 n, .int .i64 r, .string k, .slice AA an ac, .slice TA tn tc, .slice A m c] #[.int .i64 n, .int .i64 r, .string k, .slice AA' an' ac', .slice TA' tn' tc', .slice A' m c'] wr) (fun s7 _ _ => m - (intOf s7).toNat)
    case atStart => exact ⟨0, Nat.zero_le _, rfl, HS3.out⟩
    case round =>
      clear HS3
      obtain ⟨j, hj, rfl, hS⟩ := hrel
      have f5 : wr.cell? ⟨w.heap.size, 5, none⟩ = some (.slice A m c) := hS.one.cell (j := 5) rfl
      have g5 : wr.cell? ⟨w.heap.size + 1, 5, none⟩ = some (.slice A' m c') := hS.two.cell (j := 5) rfl
      have HS := Lib.hid hS
      clear hS
      by_cases hlt : j < m
      · have hji2 : (j : Int) < (m : Int) := by omega
        obtain ⟨zs, rfl, hz⟩ := HK.out
        obtain ⟨zs', rfl, hz'⟩ := HK'.out
        obtain ⟨b, off, z, rfl, hb, hzj, -, hR, hcs⟩ := hz.at_ (by decide) hlt
        obtain ⟨b', off', z', rfl, hb', hzj', -, hR', hcs'⟩ := hz'.at_ (by decide) hlt
        obtain ⟨u0, u1, u2, u3, u3n, u3c, u4, u4n, u4c, u5, u5n, u5c, ua, ut, uk, hsix, hup⟩ := hR.parts
        obtain ⟨v0, v1, v2, v3, v3n, v3c, v4, v4n, v4c, v5, v5n, v5c, va, vt, vk, hsix', hup'⟩ := hR'.parts
        rw [hsix] at hcs
        rw [hsix'] at hcs'
        have hbel := HS.out.below
        have cc : ∀ jj v, _ → wr.cell? ⟨b, off + j * 6 + jj, none⟩ = some v := fun jj v hv => (hbel.cell (p := ⟨b, _, none⟩) hb).trans (hcs jj v hv)
        have cc' : ∀ jj v, _ → wr.cell? ⟨b', off' + j * 6 + jj, none⟩ = some v := fun jj v hv => (hbel.cell (p := ⟨b', _, none⟩) hb').trans (hcs' jj v hv)
        have k0 : wr.cell? ⟨b, off + j * 6, none⟩ = some (.int .i64 u0) := cc 0 _ rfl
        have k1 : wr.cell? ⟨b, off + j * 6 + 1, none⟩ = some (.int .i64 u1) := cc 1 _ rfl
        have k2 : wr.cell? ⟨b, off + j * 6 + 2, none⟩ = some (.string u2) := cc 2 _ rfl
        have k3 : wr.cell? ⟨b, off + j * 6 + 3, none⟩ = some (.slice u3 u3n u3c) := cc 3 _ rfl
        have k4 : wr.cell? ⟨b, off + j * 6 + 4, none⟩ = some (.slice u4 u4n u4c) := cc 4 _ rfl
        have k5 : wr.cell? ⟨b, off + j * 6 + 5, none⟩ = some (.slice u5 u5n u5c) := cc 5 _ rfl
        have l0 : wr.cell? ⟨b', off' + j * 6, none⟩ = some (.int .i64 v0) := cc' 0 _ rfl
        have l1 : wr.cell? ⟨b', off' + j * 6 + 1, none⟩ = some (.int .i64 v1) := cc' 1 _ rfl
        have l2 : wr.cell? ⟨b', off' + j * 6 + 2, none⟩ = some (.string v2) := cc' 2 _ rfl
        have l3 : wr.cell? ⟨b', off' + j * 6 + 3, none⟩ = some (.slice v3 v3n v3c) := cc' 3 _ rfl
        have l4 : wr.cell? ⟨b', off' + j * 6 + 4, none⟩ = some (.slice v4 v4n v4c) := cc' 4 _ rfl
        have l5 : wr.cell? ⟨b', off' + j * 6 + 5, none⟩ = some (.slice v5 v5n v5c) := cc' 5 _ rfl
        have hji : (0 : Int) ≤ (j : Int) := by omega
        have HU : Hid (z.1.2 ≠ z'.1.2 → RT.node n r k at_ tx (vz zs) ≠ .node n r k at_' tx' (vz zs')) := Lib.hid fun h e => by
          injection e with e1 e2 e3 e4 e5 e6
          have h1 := vz_at hzj
          rw [e6, vz_at hzj'] at h1
          exact h (Option.some.inj h1).symm
        have hlt2 : rsize z.1.2 < N := by
          have h1 := HN.out
          rw [rsize] at h1
          have h2 : rsize z.1.2 ≤ rsizeL (vz zs) := rsize_mem (List.mem_of_getElem? (vz_at hzj))
          omega
        have HCALL := Lib.hid (HIH.out z.1.2 hlt2 z'.1.2 z.1.1 z'.1.1 wr.drew ((hR.beneath hbel hbel.size).keep (Nat.le_refl _) fun _ _ => rfl) ((hR'.beneath hbel hbel.size).keep (Nat.le_refl _) fun _ _ => rfl))
        rw [hsix, hsix'] at HCALL
        have HBEL := Lib.hid hbel
        generalize z.1.2 = zt at *
        generalize z'.1.2 = zt' at *
        clear cc cc' hcs hcs' hsix hsix' hR hR' hup hup' hzj hzj' hz hz' hbel hlt2
        go_wp2_with fail
        go_region_with (go_at_call 27; refine HCALL.out.mono ?_; rintro e w4 ⟨bq, rfl, hbq, hB4⟩; have HB4 := Lib.hid hB4; have HBQ := Lib.hid hbq; clear hB4 hbq)
        all_goals
          have HS4 : Hid (SAt w #[.int .i64 n, .int .i64 r, .string k, .slice AA an ac, .slice TA tn tc, .slice (some ⟨b, off, none⟩) m c] #[.int .i64 n, .int .i64 r, .string k, .slice AA' an' ac', .slice TA' tn' tc', .slice (some ⟨b', off', none⟩) m c'] w4) := Lib.hid ⟨(HBEL.out.drew).trans (HB4.out.mono HBEL.out.size), HS.out.one.below (w := wr.drew) HB4.out HS.out.one.lt, HS.out.two.below (w := wr.drew) HB4.out HS.out.two.lt⟩
          clear HB4 HBEL HS HCALL k0 k1 k2 k3 k4 k5 l0 l1 l2 l3 l4 l5 f5 g5
          cases bq
          case false =>
            have HNE := Lib.hid (HU.out fun e => absurd (HBQ.out e) (by decide))
            go_wp2_with fail
            go_ret
            exact ⟨false, rfl, fun e => absurd e HNE.out, HS4.out.below⟩
          case true =>
            go_wp2_with fail
            go_roundw
            case rel => exact ⟨j + 1, by omega, by go_num, HS4.out⟩
            case measure => simp [intOf]; omega
      · obtain rfl : j = m := by omega
        go_wp2_with fail
        go_ret
        exact ⟨true, rfl, fun _ => rfl, HS.out.below⟩
end Go.Proofs.Ytcdhndhgainadaa
