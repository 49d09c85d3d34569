/-
  The contract of Count, with a bound on the kids.
-/
import Derived.Test.YtcdhndhgainadaaCountF
namespace Go.Proofs.Ytcdhndhgainadaa
open Go Go.RowKit
set_option linter.unusedVariables false

/-- how many kids -/
def nkids : Tree → Nat | .node _ _ _ _ ks => ks.length

set_option maxRecDepth 100000 in
set_option maxHeartbeats 4000000 in
theorem count_more : ∀ (N : Nat) (t : Tree), tsz t < N → ∀ (v : List Value) (most : Int) (h0 : 0 ≤ most) (h1 : most ≤ 300) (B : Nat) (w : World), Nd w B v t → B ≤ w.heap.size →
    Calls Try.prog 19 #[.agg v.toArray, .int .i64 most] w fun e w' => ∃ c : Int, e = .returned (.int .i64 c) ∧ 1 ≤ c ∧ c ≤ most + 1 ∧ (c ≤ most → (nkids t : Int) + 1 ≤ c) ∧ Below w.heap.size w w' := by
  intro N
  induction N with
  | zero => intro t h; omega
  | succ N ih =>
    intro t hN v most h0 h1 B w hNd hB
    cases hNd with
    | mk n r k AA an ac A c TA tn tc kc ks hk hkids hcap hmax htn =>
    obtain ⟨m, hm⟩ : ∃ m, ks.length = m := ⟨_, rfl⟩
    have HI := Lib.hid (fun (i : Nat) (u : Tree) (hu : ks[i]? = some u) (q : Int) (q0 : 0 ≤ q) (q1 : q ≤ 300) (w1 : World) (h1 : Nd w1 B (kc i) u) (hB1 : B ≤ w1.heap.size) => ih u (by have := tree_size (n := n) (r := r) (k := k) (tn := tn) hu; omega) (kc i) q q0 q1 B w1 h1 hB1)
    have HK := Lib.hid hk
    have HKK := Lib.hid hkids
    have HM := Lib.hid hm
    rw [hm] at hcap ⊢
    have hnk : nkids (.node n r k tn ks) = m := hm
    rw [hnk]
    clear ih hk hkids hN hm hnk
    have HBB := Lib.hid hB
    clear hB
    have hS : NAt w #[.int .i64 n, .int .i64 r, .string k, .slice AA an ac, .slice TA tn tc, .slice A m c] (w.alloc (.cells #[.int .i64 n, .int .i64 r, .string k, .slice AA an ac, .slice TA tn tc, .slice A m c] 31)) :=
      ⟨(Below.refl _ w).alloc (Nat.le_refl _) _, BoxN.made _ _ _⟩
    have HS0 := Lib.hid hS
    clear hS
    go_enter Try.func19, Try.ntmps19
    go_wp2_with fail
    go_loopw [5, 6] (fun s i wr => ∃ (j : Nat) (kk : Int), j ≤ m ∧ s = .int .i64 kk ∧ 1 ≤ kk ∧ kk ≤ most + 1 ∧ (j : Int) + 1 ≤ kk ∧ i = .int .i64 j ∧ NAt w #[.int .i64 n, .int .i64 r, .string k, .slice AA an ac, .slice TA tn tc, .slice A m c] wr) (fun _ i _ => m - (intOf i).toNat)
    case atStart => exact ⟨0, 1, Nat.zero_le _, rfl, by omega, by omega, by omega, rfl, HS0.out⟩
    case round =>
      clear HS0
      obtain ⟨j, kk, hj, rfl, hk1, hk2, hk3, rfl, hS⟩ := hrel
      have hji : (0 : Int) ≤ (j : Int) := by omega
      have c5 : wr.cell? ⟨w.heap.size, 5, none⟩ = some (.slice A m c) := hS.node.cell (j := 5) rfl
      have HS := Lib.hid hS
      by_cases hlt : j < m
      · by_cases hle : kk ≤ most
        · obtain ⟨u, hu⟩ : ∃ u, ks[j]? = some u := ⟨ks[j]'(by rw [HM.out]; exact hlt), List.getElem?_eq_getElem _⟩
          have hne : ks ≠ [] := by intro h; rw [h] at hu; simp at hu
          obtain ⟨b, off, rfl, hb, hcs⟩ := HK.out.resolve_left hne
          have hndk := HKK.out j u hu
          obtain ⟨kn, kr, kx, kAA, kan, kac, kTA, ktn, ktc, kA, km, kc2, hsix⟩ := hndk.six
          have hbw : b < w.heap.size := by have := HBB.out; omega
          have cc : ∀ jj v, (kc j)[jj]? = some v → wr.cell? ⟨b, off + j * 6 + jj, none⟩ = some v := fun jj v hv => by
            rw [Nat.add_assoc]
            exact (HS.out.below.cell (p := ⟨b, _, none⟩) hbw).trans (hcs j (by rw [HM.out]; exact hlt) jj v hv)
          rw [hsix] at cc
          have k0 : wr.cell? ⟨b, off + j * 6, none⟩ = some (.int .i64 kn) := cc 0 _ rfl
          have k1 : wr.cell? ⟨b, off + j * 6 + 1, none⟩ = some (.int .i64 kr) := cc 1 _ rfl
          have k2 : wr.cell? ⟨b, off + j * 6 + 2, none⟩ = some (.string kx) := cc 2 _ rfl
          have k3 : wr.cell? ⟨b, off + j * 6 + 3, none⟩ = some (.slice kAA kan kac) := cc 3 _ rfl
          have k4 : wr.cell? ⟨b, off + j * 6 + 4, none⟩ = some (.slice kTA ktn ktc) := cc 4 _ rfl
          have k5 : wr.cell? ⟨b, off + j * 6 + 5, none⟩ = some (.slice kA km kc2) := cc 5 _ rfl
          have HCALL := Lib.hid (HI.out j u hu (most - kk) (by omega) (by omega) wr)
          rw [hsix] at HCALL hndk
          have HNDK := Lib.hid (hndk.keep (w' := wr) (Nat.le_refl _) fun q hq => hS.below.cell (Nat.lt_of_lt_of_le hq HBB.out))
          have HSZ : Hid (B ≤ wr.heap.size) := Lib.hid (Nat.le_trans HBB.out hS.below.size)
          have hji2 : (j : Int) < (m : Int) := by omega
          have hwr : IntKind.wrap .i64 (most - kk) = most - kk := IntWalk.i64_in _ (by omega)
          clear cc hcs hndk hu hne hsix HKK HK HI hS
          go_wp2_with fail
          refine (HCALL.out HNDK.out HSZ.out).mono ?_
          rintro e w4 ⟨c4, rfl, hc1, hc2, -, hB4⟩
          have HS4 : Hid (NAt w #[.int .i64 n, .int .i64 r, .string k, .slice AA an ac, .slice TA tn tc, .slice (some ⟨b, off, none⟩) m c] w4) := Lib.hid ⟨HS.out.below.trans (hB4.mono HS.out.below.size), HS.out.node.below hB4 HS.out.node.lt⟩
          have hwr2 : IntKind.wrap .i64 (kk + c4) = kk + c4 := IntWalk.i64_in _ (by omega)
          clear hB4 HS HCALL HNDK HSZ c5 k0 k1 k2 k3 k4 k5
          go_wp2_with fail
          go_roundw
          case rel => exact ⟨j + 1, kk + c4, by omega, by first | rfl | rw [hwr2], by omega, by omega, by omega, by go_num, HS4.out⟩
          case measure => simp [intOf]; omega
        · have hji2 : (j : Int) < (m : Int) := by omega
          go_wp2_with fail
          go_ret
          exact ⟨kk, rfl, hk1, hk2, fun h => by omega, HS.out.below⟩
      · obtain rfl : j = m := by omega
        clear hS
        by_cases hle : kk ≤ most
        all_goals
          go_wp2_with fail
          go_ret
          exact ⟨kk, rfl, hk1, hk2, fun h => by omega, HS.out.below⟩
end Go.Proofs.Ytcdhndhgainadaa
