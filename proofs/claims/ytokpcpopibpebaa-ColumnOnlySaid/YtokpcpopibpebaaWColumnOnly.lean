/-
  THE WALK OF ColumnOnly.
-/
import Derived.Test.YtokpcpopibpebaaOpenCol
import Derived.Test.YtokpcpopibpebaaWColumnTakes
import Derived.Shelf.Abstract
namespace Go.Proofs.Ytokpcpopibpebaa.columnOnly
open Go Go.RowKit Go.Shelf
set_option linter.unusedVariables false
set_option linter.unusedSimpArgs false

/-- the answers of TakeRuns and TakeDeltas beside one another -/
theorem two_ways {b : List Nat} {n : Int} (hb : ∀ y ∈ b, y < 256) :
    (¬ aE (badN n) (takenI b n.toNat) = 0 ∧ aL (badN n) (takenI b n.toNat) = [] ∧ aK (badN n) (takenI b n.toNat) = 0 ∧ aE (badN n) (takenD b n.toNat) = aE (badN n) (takenI b n.toNat) ∧ aL (badN n) (takenD b n.toNat) = [] ∧ aK (badN n) (takenD b n.toNat) = 0) ∨
    (aE (badN n) (takenI b n.toNat) = 0 ∧ aE (badN n) (takenD b n.toNat) = 0 ∧ (∃ N : Nat, n = N ∧ N ≤ 65536 ∧ (aL (badN n) (takenI b n.toNat)).length = N ∧ (aL (badN n) (takenD b n.toNat)).length = N) ∧
      aK (badN n) (takenD b n.toNat) = aK (badN n) (takenI b n.toNat) ∧ aK (badN n) (takenI b n.toNat) ≤ b.length ∧ (∀ x ∈ aL (badN n) (takenI b n.toNat), InI x) ∧ (∀ x ∈ aL (badN n) (takenD b n.toNat), InI x) ∧
      runsBytes (runs (aL (badN n) (takenI b n.toNat))) = b.take (aK (badN n) (takenI b n.toNat)) ∧ runsBytes (runs (delta (aL (badN n) (takenD b n.toNat)))) = b.take (aK (badN n) (takenI b n.toNat))) := by
  cases hn : badN n with
  | true => left; simp [aE, aL, aK]
  | false =>
    have hn2 : 0 ≤ n ∧ n ≤ 65536 := by unfold badN at hn; simp at hn; omega
    unfold takenI takenD
    cases hp : parse b n.toNat none with
    | none => left; simp [aE, aL, aK]
    | some ps =>
      right
      obtain ⟨⟨r, e⟩, h2, h3, h4⟩ := parse_some hb hp
      have hI := expand_InI fun p hp => (h3 p hp).2.2
      have ht : b.take (runsBytes ps).length = runsBytes ps := by
        conv => lhs; rw [e]
        rw [List.take_left]
      have hle : (runsBytes ps).length ≤ b.length := by rw [e, List.length_append]; omega
      simp only [aE, aL, aK, Option.map_some]
      refine ⟨trivial, trivial, ⟨n.toNat, by omega, by omega, h2, by rw [undelta_len, h2]⟩, trivial, hle, hI, undelta_InI hI, by rw [h4, ht], by rw [delta_undelta hI, h4, ht]⟩
theorem one_way {b : List Nat} {n : Int} (hb : ∀ y ∈ b, y < 256) :
    (¬ aE (badN n) (takenB b n.toNat) = 0 ∧ aL (badN n) (takenB b n.toNat) = [] ∧ aK (badN n) (takenB b n.toNat) = 0) ∨
    (aE (badN n) (takenB b n.toNat) = 0 ∧ (∃ N : Nat, n = N ∧ N ≤ 65536 ∧ (aL (badN n) (takenB b n.toNat)).length = N) ∧ aK (badN n) (takenB b n.toNat) ≤ b.length ∧ boolBytes (aL (badN n) (takenB b n.toNat)) = b.take (aK (badN n) (takenB b n.toNat))) := by
  cases hn : badN n with
  | true => left; simp [aE, aL, aK]
  | false =>
    have hn2 : 0 ≤ n ∧ n ≤ 65536 := by unfold badN at hn; simp at hn; omega
    unfold takenB
    cases hp : parseB b n.toNat true with
    | none => left; simp [aE, aL, aK]
    | some ks =>
      right
      obtain ⟨⟨r, e⟩, h2, h3⟩ := parseB_back hb hp
      have ht : b.take (puts ks).length = puts ks := by
        conv => lhs; rw [e]
        rw [List.take_left]
      have hle : (puts ks).length ≤ b.length := by rw [e, List.length_append]; omega
      simp only [aE, aL, aK, Option.map_some]
      exact ⟨trivial, ⟨n.toNat, by omega, by omega, h2⟩, hle, by rw [h3, ht]⟩

set_option maxRecDepth 100000 in
set_option maxHeartbeats 8000000 in
theorem walk (W : World) (A : Option Addr) (len c : Nat) (b : List Nat) (k : Bytes W A len c b) (n : Int) (hn1 : -9223372036854775808 ≤ n) (hn2 : n < 9223372036854775808) :
    Calls Try.prog 14 #[.slice A len c, .int .i64 n] W fun e w' => e = .returned (.bool true) ∧ Below W.heap.size W w' := by
  have K := Lib.hid k
  have HN := Lib.hid (And.intro hn1 hn2)
  clear k hn1 hn2
  by_cases h1 : 2000 < len
  · go_enter Try.func14, Try.ntmps14
    go_wp2_with fail
    refine (alive4_any W).mono ?_
    rintro e w1 ⟨rfl, hB1⟩
    have HB1 := Lib.hid hB1
    clear hB1
    go_wp2_with fail
    go_ret
    exact ⟨rfl, HB1.out⟩
  · have hR : Hid (∀ w, Below W.heap.size W w → Rd w w.heap.size 1 A len (by8 b)) := Lib.hid fun w hw => (K.out.rd.below hw).more hw.size
    have X0 := Lib.hid (Below.refl W.heap.size W)
    have T2 := Lib.hid (two_ways (n := n) K.out.lt)
    have T1 := Lib.hid (one_way (n := n) K.out.lt)
    have HBL := Lib.hid K.out.len
    have hcc : len ≤ c := K.out.cap
    have hcm : c ≤ 9223372036854775807 := K.out.max
    go_enter Try.func14, Try.ntmps14
    go_wp2_with fail
    refine (takeruns_any A len c b n HN.out.1 HN.out.2 W (hR.out W X0.out) K.out.lt (by omega) K.out.cap K.out.max).mono ?_
    intro e w1 hA
    obtain ⟨A1, c1, rfl, own1, hB1⟩ := hA.flat
    have X1 := Lib.hid (X0.out.trans (hB1.mono X0.out.size))
    have cp1 := Lib.hid (own_cap own1)
    have R1 := Lib.hid (Rd.of_own own1)
    clear own1 hB1 hA X0
    go_wp2_with fail
    refine (takedeltas_any A len c b n HN.out.1 HN.out.2 w1 (hR.out w1 X1.out) K.out.lt (by omega) K.out.cap K.out.max).mono ?_
    intro e w2 hA
    obtain ⟨A2, c2, rfl, own2, hB2⟩ := hA.flat
    have X2 := Lib.hid (X1.out.trans (hB2.mono X1.out.size))
    have cp2 := Lib.hid (own_cap own2)
    have R2 := Lib.hid (Rd.of_own own2)
    have R1n := Lib.hid ((R1.out.below hB2).more hB2.size)
    clear R1
    have R1 := R1n
    clear R1n
    clear own2 hB2 hA X1
    go_wp2_with fail
    refine (takebools_any A len c b n HN.out.1 HN.out.2 w2 (hR.out w2 X2.out) K.out.lt (by omega) K.out.cap K.out.max).mono ?_
    intro e w3 hA
    obtain ⟨A3, c3, rfl, own3, hB3⟩ := hA.flat
    have X3 := Lib.hid (X2.out.trans (hB3.mono X2.out.size))
    have cp3 := Lib.hid (own_cap own3)
    have R3 := Lib.hid (Rd.of_own own3)
    have R1n := Lib.hid ((R1.out.below hB3).more hB3.size)
    clear R1
    have R1 := R1n
    clear R1n
    have R2n := Lib.hid ((R2.out.below hB3).more hB3.size)
    clear R2
    have R2 := R2n
    clear R2n
    clear own3 hB3 hA X2
    generalize aL (badN n) (takenI b n.toNat) = lI at *
    generalize aK (badN n) (takenI b n.toNat) = kI at *
    generalize aE (badN n) (takenI b n.toNat) = eI at *
    generalize aL (badN n) (takenD b n.toNat) = lD at *
    generalize aK (badN n) (takenD b n.toNat) = kD at *
    generalize aE (badN n) (takenD b n.toNat) = eD at *
    generalize aL (badN n) (takenB b n.toNat) = lB at *
    generalize aK (badN n) (takenB b n.toNat) = kB at *
    generalize aE (badN n) (takenB b n.toNat) = eB at *
    have HRB : Hid (∀ w k, Below W.heap.size W w → k ≤ len → Rd w w.heap.size 1 A k (by8 (b.take k))) := Lib.hid fun w k hw hk => by
      have := (hR.out w hw).take1 (k := k) hk
      have htk : (by8 b).take k = by8 (b.take k) := by simp [by8, List.map_take]
      rwa [htk] at this
    have HSM : Hid (∀ w k A1 c1, Below W.heap.size W w → k ≤ len → Rd w w.heap.size 1 A1 (b.take k).length (by8 (b.take k)) → Calls Try.prog 16 #[.slice A1 (b.take k).length c1, .slice A k c] w fun e w' => e = .returned (.bool true) ∧ w = w') := Lib.hid fun w k A1 c1 hw hk h => by
      have hlt : ∀ x ∈ b.take k, x < 256 := fun x hx => K.out.lt x (List.mem_of_mem_take hx)
      have := same_any (c := c1) (c' := c) h (HRB.out w k hw hk) hlt hlt
      rwa [decide_eq_true rfl] at this
    have hX := Below.refl w3.heap.size w3
    have HX3 := X3
    clear X3
    rcases T2.out with hI | hI <;> rcases T1.out with hJ | hJ
    · obtain ⟨e1, rfl, rfl, rfl, rfl, rfl⟩ := hI
      have f1 : (eD != 0) = true := by simpa using e1
      have f2 : (eD == 0) = false := by simpa using e1
      have f3 : (eD == eD) = true := by simp
      obtain ⟨e2, rfl, rfl⟩ := hJ
      have f4 : (eB != 0) = true := by simpa using e2
      have f5 : (eB == 0) = false := by simpa using e2
      clear T1 T2
      go_wp2_with fail
      go_quiet (fail)
      replace hX := blw_draw hX nq
      try simp only [World.drewN_drewN] at hX ⊢
      generalize World.drewN _ _ = wq at hX ⊢
      go_wp2_with fail
      go_quiet (fail)
      replace hX := blw_draw hX nq
      try simp only [World.drewN_drewN] at hX ⊢
      generalize World.drewN _ _ = wq at hX ⊢
      go_wp2_with fail
      go_quiet (fail)
      replace hX := blw_draw hX nq
      try simp only [World.drewN_drewN] at hX ⊢
      generalize World.drewN _ _ = wq at hX ⊢
      go_wp2_with fail
      refine (alive4_any _).mono ?_
      rintro e w9 ⟨rfl, hB9⟩
      have FIN := Lib.hid (HX3.out.trans ((hX.trans (hB9.mono hX.size)).mono HX3.out.size))
      clear hB9 hX
      go_wp2_with fail
      go_ret
      exact ⟨rfl, FIN.out⟩
    · obtain ⟨e1, rfl, rfl, rfl, rfl, rfl⟩ := hI
      have f1 : (eD != 0) = true := by simpa using e1
      have f2 : (eD == 0) = false := by simpa using e1
      have f3 : (eD == eD) = true := by simp
      obtain ⟨rfl, ⟨N, rfl, hN, hl3⟩, hkB, hr3⟩ := hJ
      rw [HBL.out] at hkB
      have D3 : Hid (∀ w, Below w3.heap.size w3 w → Calls Try.prog 31 #[.slice A3 N c3] w (Made8 (b.take kB) w)) := Lib.hid fun w hw => by
        have h5 := cp3.out
        have h6 := (R3.out.below hw).more hw.size
        rw [hl3] at h5
        have h7 : Rd w w.heap.size 1 A3 N (bls lB) := by rw [← hl3]; exact h6
        have := bools_any A3 N c3 lB hN h5.1 h5.2 w h7
        rwa [hr3] at this
      rw [hl3]
      have p1 : (0 : Int) ≤ (kB : Int) := by omega
      have p2 : (kB : Int) ≤ (len : Int) := by omega
      have p3 : (kB : Int) ≤ (c : Int) := by omega
      have p4 : ((N : Int) == (N : Int)) = true := by simp
      clear T1 T2
      clear hl3 hr3
      go_wp2_with fail
      go_quiet (fail)
      replace hX := blw_draw hX nq
      try simp only [World.drewN_drewN] at hX ⊢
      generalize World.drewN _ _ = wq at hX ⊢
      go_wp2_with fail
      go_quiet (fail)
      replace hX := blw_draw hX nq
      try simp only [World.drewN_drewN] at hX ⊢
      generalize World.drewN _ _ = wq at hX ⊢
      go_wp2_with fail
      refine wp_region_any (by kernel_rfl) ?_
      change wpAny _ _ _ _ _ _ _ (World.drew _)
      refine any_takeg (i := 0) (v := (.int .i64 0)) rfl rfl (by kernel_rfl) (by kernel_rfl) (by kernel_rfl) (fun _ _ _ h => h) (fun _ => by go_simp) ?_
      simp only [Act.put, List.setIfInBounds_toArray, List.set_cons_succ, List.set_cons_zero, List.getElem_toArray, List.getElem_cons_succ, List.getElem_cons_zero]
      refine any_takeg (i := 1) (v := (.bool false)) rfl rfl (by kernel_rfl) (by kernel_rfl) (by kernel_rfl) (fun _ _ _ h => h) (fun _ => by go_simp) ?_
      simp only [Act.put, List.setIfInBounds_toArray, List.set_cons_succ, List.set_cons_zero, List.getElem_toArray, List.getElem_cons_succ, List.getElem_cons_zero]
      refine any_takeg (i := 2) (v := (.bool false)) rfl rfl (by kernel_rfl) (by kernel_rfl) (by kernel_rfl) (fun _ _ _ h => h) (fun _ => by go_simp) ?_
      simp only [Act.put, List.setIfInBounds_toArray, List.set_cons_succ, List.set_cons_zero, List.getElem_toArray, List.getElem_cons_succ, List.getElem_cons_zero]
      refine any_takeg (i := 3) (v := (.slice A3 N c3)) rfl rfl (by kernel_rfl) (by kernel_rfl) (by kernel_rfl) (fun _ _ _ h => h) (fun _ => by go_simp) ?_
      simp only [Act.put, List.setIfInBounds_toArray, List.set_cons_succ, List.set_cons_zero, List.getElem_toArray, List.getElem_cons_succ, List.getElem_cons_zero]
      refine any_takeg (i := 4) (v := (.int .i64 (N : Int))) rfl rfl (by kernel_rfl) (by kernel_rfl) (by kernel_rfl) (fun _ _ _ h => h) (fun _ => by go_simp) ?_
      simp only [Act.put, List.setIfInBounds_toArray, List.set_cons_succ, List.set_cons_zero, List.getElem_toArray, List.getElem_cons_succ, List.getElem_cons_zero]
      refine any_takeg (i := 5) (v := (.int .i64 (N : Int))) rfl rfl (by kernel_rfl) (by kernel_rfl) (by kernel_rfl) (fun _ _ _ h => h) (fun _ => by go_simp) ?_
      simp only [Act.put, List.setIfInBounds_toArray, List.set_cons_succ, List.set_cons_zero, List.getElem_toArray, List.getElem_cons_succ, List.getElem_cons_zero]
      refine any_takeg (i := 6) (v := (.bool true)) rfl rfl (by kernel_rfl) (by kernel_rfl) (by kernel_rfl) (fun _ _ _ h => h) (fun _ => by go_simp) ?_
      simp only [Act.put, List.setIfInBounds_toArray, List.set_cons_succ, List.set_cons_zero, List.getElem_toArray, List.getElem_cons_succ, List.getElem_cons_zero]
      refine any_takeg (i := 7) (v := (.bool true)) rfl rfl (by kernel_rfl) (by kernel_rfl) (by kernel_rfl) (fun _ _ _ h => h) (fun _ => by go_simp) ?_
      simp only [Act.put, List.setIfInBounds_toArray, List.set_cons_succ, List.set_cons_zero, List.getElem_toArray, List.getElem_cons_succ, List.getElem_cons_zero]
      refine any_takeg (i := 8) (v := (.int .i64 (kB : Int))) rfl rfl (by kernel_rfl) (by kernel_rfl) (by kernel_rfl) (fun _ _ _ h => h) (fun _ => by go_simp) ?_
      simp only [Act.put, List.setIfInBounds_toArray, List.set_cons_succ, List.set_cons_zero, List.getElem_toArray, List.getElem_cons_succ, List.getElem_cons_zero]
      refine any_takeg (i := 9) (v := (.bool true)) rfl rfl (by kernel_rfl) (by kernel_rfl) (by kernel_rfl) (fun _ _ _ h => h) (fun _ => by go_simp) ?_
      simp only [Act.put, List.setIfInBounds_toArray, List.set_cons_succ, List.set_cons_zero, List.getElem_toArray, List.getElem_cons_succ, List.getElem_cons_zero]
      refine any_takeg (i := 10) (v := (.bool true)) rfl rfl (by kernel_rfl) (by kernel_rfl) (by kernel_rfl) (fun _ _ _ h => h) (fun _ => by go_simp) ?_
      simp only [Act.put, List.setIfInBounds_toArray, List.set_cons_succ, List.set_cons_zero, List.getElem_toArray, List.getElem_cons_succ, List.getElem_cons_zero]
      refine any_takeg (i := 11) (v := (.bool true)) rfl rfl (by kernel_rfl) (by kernel_rfl) (by kernel_rfl) (fun _ _ _ h => h) (fun _ => by go_simp) ?_
      simp only [Act.put, List.setIfInBounds_toArray, List.set_cons_succ, List.set_cons_zero, List.getElem_toArray, List.getElem_cons_succ, List.getElem_cons_zero]
      refine any_takeg (i := 12) (v := (.int .i64 (kB : Int))) rfl rfl (by kernel_rfl) (by kernel_rfl) (by kernel_rfl) (fun _ _ _ h => h) (fun _ => by go_simp) ?_
      simp only [Act.put, List.setIfInBounds_toArray, List.set_cons_succ, List.set_cons_zero, List.getElem_toArray, List.getElem_cons_succ, List.getElem_cons_zero]
      refine any_takeg (i := 13) (v := (.slice A len c)) rfl rfl (by kernel_rfl) (by kernel_rfl) (by kernel_rfl) (fun _ _ _ h => h) (fun _ => by go_simp) ?_
      simp only [Act.put, List.setIfInBounds_toArray, List.set_cons_succ, List.set_cons_zero, List.getElem_toArray, List.getElem_cons_succ, List.getElem_cons_zero]
      refine any_takeg (i := 14) (v := (.int .i64 (len : Int))) rfl rfl (by kernel_rfl) (by kernel_rfl) (by kernel_rfl) (fun _ _ _ h => h) (fun _ => by go_simp) ?_
      simp only [Act.put, List.setIfInBounds_toArray, List.set_cons_succ, List.set_cons_zero, List.getElem_toArray, List.getElem_cons_succ, List.getElem_cons_zero]
      refine any_takeg (i := 15) (v := (.bool true)) rfl rfl (by kernel_rfl) (by kernel_rfl) (by kernel_rfl) (fun _ _ _ h => h) (fun _ => by go_simp) ?_
      simp only [Act.put, List.setIfInBounds_toArray, List.set_cons_succ, List.set_cons_zero, List.getElem_toArray, List.getElem_cons_succ, List.getElem_cons_zero]
      refine any_takeg (i := 16) (v := (.bool true)) rfl rfl (by kernel_rfl) (by kernel_rfl) (by kernel_rfl) (fun _ _ _ h => h) (fun _ => by go_simp) ?_
      simp only [Act.put, List.setIfInBounds_toArray, List.set_cons_succ, List.set_cons_zero, List.getElem_toArray, List.getElem_cons_succ, List.getElem_cons_zero]
      refine any_takeg (i := 17) (v := (.bool true)) rfl rfl (by kernel_rfl) (by kernel_rfl) (by kernel_rfl) (fun _ _ _ h => h) (fun _ => by go_simp) ?_
      simp only [Act.put, List.setIfInBounds_toArray, List.set_cons_succ, List.set_cons_zero, List.getElem_toArray, List.getElem_cons_succ, List.getElem_cons_zero]
      refine any_takeg (i := 18) (v := (.slice A3 N c3)) rfl rfl (by kernel_rfl) (by kernel_rfl) (by kernel_rfl) (fun _ _ _ h => h) (fun _ => by go_simp) ?_
      simp only [Act.put, List.setIfInBounds_toArray, List.set_cons_succ, List.set_cons_zero, List.getElem_toArray, List.getElem_cons_succ, List.getElem_cons_zero]
      refine any_takeg (i := 20) (v := (.slice A len c)) rfl rfl (by kernel_rfl) (by kernel_rfl) (by kernel_rfl) (fun _ _ _ h => h) (fun _ => by go_simp) ?_
      simp only [Act.put, List.setIfInBounds_toArray, List.set_cons_succ, List.set_cons_zero, List.getElem_toArray, List.getElem_cons_succ, List.getElem_cons_zero]
      refine any_takeg (i := 21) (v := (.int .i64 (kB : Int))) rfl rfl (by kernel_rfl) (by kernel_rfl) (by kernel_rfl) (fun _ _ _ h => h) (fun _ => by go_simp) ?_
      simp only [Act.put, List.setIfInBounds_toArray, List.set_cons_succ, List.set_cons_zero, List.getElem_toArray, List.getElem_cons_succ, List.getElem_cons_zero]
      refine any_takeg (i := 22) (v := (.slice A kB c)) rfl rfl (by kernel_rfl) (by kernel_rfl) (by kernel_rfl) (fun _ _ _ h => h) (fun _ => by go_simp) ?_
      simp only [Act.put, List.setIfInBounds_toArray, List.set_cons_succ, List.set_cons_zero, List.getElem_toArray, List.getElem_cons_succ, List.getElem_cons_zero]
      refine any_callg (i := 19) (by kernel_rfl) rfl rfl rfl (enters_of Try.func31 (by kernel_rfl) rfl) [.slice A3 N c3] rfl (D3.out _ hX.drew) ?_
      rintro e w5 ⟨B5, d5, rfl, own5, hB5⟩
      replace hX := hX.drew.trans (hB5.mono hX.size)
      have Q5 := Lib.hid (Rd.of_own own5)
      clear own5 hB5
      refine ⟨_, rfl, ?_⟩
      simp only [Act.put, List.setIfInBounds_toArray, List.set_cons_succ, List.set_cons_zero, List.getElem_toArray, List.getElem_cons_succ, List.getElem_cons_zero]
      refine any_callg (i := 23) (by kernel_rfl) rfl rfl rfl (enters_of Try.func16 (by kernel_rfl) rfl) [.slice B5 (b.take kB).length d5, .slice A kB c] rfl (HSM.out _ _ _ _ (HX3.out.trans (hX.mono HX3.out.size)) (by omega) Q5.out) ?_
      rintro e w6 ⟨rfl, rfl⟩
      clear Q5
      refine ⟨_, rfl, ?_⟩
      simp only [Act.put, List.setIfInBounds_toArray, List.set_cons_succ, List.set_cons_zero, List.getElem_toArray, List.getElem_cons_succ, List.getElem_cons_zero]
      refine any_takeg (i := 24) (v := (.bool true)) rfl rfl (by kernel_rfl) (by kernel_rfl) (by kernel_rfl) (fun _ _ _ h => h) (fun _ => by go_simp) ?_
      simp only [Act.put, List.setIfInBounds_toArray, List.set_cons_succ, List.set_cons_zero, List.getElem_toArray, List.getElem_cons_succ, List.getElem_cons_zero]
      refine any_takeg (i := 25) (v := (.bool true)) rfl rfl (by kernel_rfl) (by kernel_rfl) (by kernel_rfl) (fun _ _ _ h => h) (fun _ => by go_simp) ?_
      simp only [Act.put, List.setIfInBounds_toArray, List.set_cons_succ, List.set_cons_zero, List.getElem_toArray, List.getElem_cons_succ, List.getElem_cons_zero]
      refine any_takeg (i := 26) (v := (.bool true)) rfl rfl (by kernel_rfl) (by kernel_rfl) (by kernel_rfl) (fun _ _ _ h => h) (fun _ => by go_simp) ?_
      simp only [Act.put, List.setIfInBounds_toArray, List.set_cons_succ, List.set_cons_zero, List.getElem_toArray, List.getElem_cons_succ, List.getElem_cons_zero]
      refine wpAny_done (by kernel_rfl) ?_ _
      go_wp2_with fail
      refine (alive4_any _).mono ?_
      rintro e w9 ⟨rfl, hB9⟩
      have FIN := Lib.hid (HX3.out.trans ((hX.trans (hB9.mono hX.size)).mono HX3.out.size))
      clear hB9 hX
      go_wp2_with fail
      go_ret
      exact ⟨rfl, FIN.out⟩
    · obtain ⟨e2, rfl, rfl⟩ := hJ
      have f4 : (eB != 0) = true := by simpa using e2
      have f5 : (eB == 0) = false := by simpa using e2
      obtain ⟨rfl, rfl, ⟨N, rfl, hN, hl1, hl2⟩, rfl, hk, hi1, hi2, hr1, hr2⟩ := hI
      rw [HBL.out] at hk
      have D1 : Hid (∀ w, Below w3.heap.size w3 w → Calls Try.prog 27 #[.slice A1 N c1] w (Made8 (b.take kD) w)) := Lib.hid fun w hw => by
        have h5 := cp1.out
        have h6 := (R1.out.below hw).more hw.size
        rw [hl1] at h5
        have h7 : Rd w w.heap.size 1 A1 N (i64s lI) := by rw [← hl1]; exact h6
        have := runs_any A1 N c1 lI hN h5.1 h5.2 hi1 w h7
        rwa [hr1] at this
      have D2 : Hid (∀ w, Below w3.heap.size w3 w → Calls Try.prog 29 #[.slice A2 N c2] w (Made8 (b.take kD) w)) := Lib.hid fun w hw => by
        have h5 := cp2.out
        have h6 := (R2.out.below hw).more hw.size
        rw [hl2] at h5
        have h7 : Rd w w.heap.size 1 A2 N (i64s lD) := by rw [← hl2]; exact h6
        have := deltas_any A2 N c2 lD hN h5.1 h5.2 hi2 w h7
        rwa [hr2] at this
      rw [hl1, hl2]
      have m1 : (0 : Int) ≤ (kD : Int) := by omega
      have m2 : (kD : Int) ≤ (len : Int) := by omega
      have m3 : (kD : Int) ≤ (c : Int) := by omega
      have m4 : ((N : Int) == (N : Int)) = true := by simp
      clear T1 T2
      clear hl1 hl2 hi1 hi2 hr1 hr2
      go_wp2_with fail
      refine wp_region_any (by kernel_rfl) ?_
      change wpAny _ _ _ _ _ _ _ (World.drew _)
      refine any_takeg (i := 0) (v := (.int .i64 0)) rfl rfl (by kernel_rfl) (by kernel_rfl) (by kernel_rfl) (fun _ _ _ h => h) (fun _ => by go_simp) ?_
      simp only [Act.put, List.setIfInBounds_toArray, List.set_cons_succ, List.set_cons_zero, List.getElem_toArray, List.getElem_cons_succ, List.getElem_cons_zero]
      refine any_takeg (i := 1) (v := (.bool false)) rfl rfl (by kernel_rfl) (by kernel_rfl) (by kernel_rfl) (fun _ _ _ h => h) (fun _ => by go_simp) ?_
      simp only [Act.put, List.setIfInBounds_toArray, List.set_cons_succ, List.set_cons_zero, List.getElem_toArray, List.getElem_cons_succ, List.getElem_cons_zero]
      refine any_takeg (i := 2) (v := (.bool false)) rfl rfl (by kernel_rfl) (by kernel_rfl) (by kernel_rfl) (fun _ _ _ h => h) (fun _ => by go_simp) ?_
      simp only [Act.put, List.setIfInBounds_toArray, List.set_cons_succ, List.set_cons_zero, List.getElem_toArray, List.getElem_cons_succ, List.getElem_cons_zero]
      refine any_takeg (i := 3) (v := (.slice A1 N c1)) rfl rfl (by kernel_rfl) (by kernel_rfl) (by kernel_rfl) (fun _ _ _ h => h) (fun _ => by go_simp) ?_
      simp only [Act.put, List.setIfInBounds_toArray, List.set_cons_succ, List.set_cons_zero, List.getElem_toArray, List.getElem_cons_succ, List.getElem_cons_zero]
      refine any_takeg (i := 4) (v := (.int .i64 (N : Int))) rfl rfl (by kernel_rfl) (by kernel_rfl) (by kernel_rfl) (fun _ _ _ h => h) (fun _ => by go_simp) ?_
      simp only [Act.put, List.setIfInBounds_toArray, List.set_cons_succ, List.set_cons_zero, List.getElem_toArray, List.getElem_cons_succ, List.getElem_cons_zero]
      refine any_takeg (i := 5) (v := (.int .i64 (N : Int))) rfl rfl (by kernel_rfl) (by kernel_rfl) (by kernel_rfl) (fun _ _ _ h => h) (fun _ => by go_simp) ?_
      simp only [Act.put, List.setIfInBounds_toArray, List.set_cons_succ, List.set_cons_zero, List.getElem_toArray, List.getElem_cons_succ, List.getElem_cons_zero]
      refine any_takeg (i := 6) (v := (.bool true)) rfl rfl (by kernel_rfl) (by kernel_rfl) (by kernel_rfl) (fun _ _ _ h => h) (fun _ => by go_simp) ?_
      simp only [Act.put, List.setIfInBounds_toArray, List.set_cons_succ, List.set_cons_zero, List.getElem_toArray, List.getElem_cons_succ, List.getElem_cons_zero]
      refine any_takeg (i := 7) (v := (.bool true)) rfl rfl (by kernel_rfl) (by kernel_rfl) (by kernel_rfl) (fun _ _ _ h => h) (fun _ => by go_simp) ?_
      simp only [Act.put, List.setIfInBounds_toArray, List.set_cons_succ, List.set_cons_zero, List.getElem_toArray, List.getElem_cons_succ, List.getElem_cons_zero]
      refine any_takeg (i := 8) (v := (.int .i64 (kD : Int))) rfl rfl (by kernel_rfl) (by kernel_rfl) (by kernel_rfl) (fun _ _ _ h => h) (fun _ => by go_simp) ?_
      simp only [Act.put, List.setIfInBounds_toArray, List.set_cons_succ, List.set_cons_zero, List.getElem_toArray, List.getElem_cons_succ, List.getElem_cons_zero]
      refine any_takeg (i := 9) (v := (.bool true)) rfl rfl (by kernel_rfl) (by kernel_rfl) (by kernel_rfl) (fun _ _ _ h => h) (fun _ => by go_simp) ?_
      simp only [Act.put, List.setIfInBounds_toArray, List.set_cons_succ, List.set_cons_zero, List.getElem_toArray, List.getElem_cons_succ, List.getElem_cons_zero]
      refine any_takeg (i := 10) (v := (.bool true)) rfl rfl (by kernel_rfl) (by kernel_rfl) (by kernel_rfl) (fun _ _ _ h => h) (fun _ => by go_simp) ?_
      simp only [Act.put, List.setIfInBounds_toArray, List.set_cons_succ, List.set_cons_zero, List.getElem_toArray, List.getElem_cons_succ, List.getElem_cons_zero]
      refine any_takeg (i := 11) (v := (.bool true)) rfl rfl (by kernel_rfl) (by kernel_rfl) (by kernel_rfl) (fun _ _ _ h => h) (fun _ => by go_simp) ?_
      simp only [Act.put, List.setIfInBounds_toArray, List.set_cons_succ, List.set_cons_zero, List.getElem_toArray, List.getElem_cons_succ, List.getElem_cons_zero]
      refine any_takeg (i := 12) (v := (.int .i64 (kD : Int))) rfl rfl (by kernel_rfl) (by kernel_rfl) (by kernel_rfl) (fun _ _ _ h => h) (fun _ => by go_simp) ?_
      simp only [Act.put, List.setIfInBounds_toArray, List.set_cons_succ, List.set_cons_zero, List.getElem_toArray, List.getElem_cons_succ, List.getElem_cons_zero]
      refine any_takeg (i := 13) (v := (.slice A len c)) rfl rfl (by kernel_rfl) (by kernel_rfl) (by kernel_rfl) (fun _ _ _ h => h) (fun _ => by go_simp) ?_
      simp only [Act.put, List.setIfInBounds_toArray, List.set_cons_succ, List.set_cons_zero, List.getElem_toArray, List.getElem_cons_succ, List.getElem_cons_zero]
      refine any_takeg (i := 14) (v := (.int .i64 (len : Int))) rfl rfl (by kernel_rfl) (by kernel_rfl) (by kernel_rfl) (fun _ _ _ h => h) (fun _ => by go_simp) ?_
      simp only [Act.put, List.setIfInBounds_toArray, List.set_cons_succ, List.set_cons_zero, List.getElem_toArray, List.getElem_cons_succ, List.getElem_cons_zero]
      refine any_takeg (i := 15) (v := (.bool true)) rfl rfl (by kernel_rfl) (by kernel_rfl) (by kernel_rfl) (fun _ _ _ h => h) (fun _ => by go_simp) ?_
      simp only [Act.put, List.setIfInBounds_toArray, List.set_cons_succ, List.set_cons_zero, List.getElem_toArray, List.getElem_cons_succ, List.getElem_cons_zero]
      refine any_takeg (i := 16) (v := (.bool true)) rfl rfl (by kernel_rfl) (by kernel_rfl) (by kernel_rfl) (fun _ _ _ h => h) (fun _ => by go_simp) ?_
      simp only [Act.put, List.setIfInBounds_toArray, List.set_cons_succ, List.set_cons_zero, List.getElem_toArray, List.getElem_cons_succ, List.getElem_cons_zero]
      refine any_takeg (i := 17) (v := (.bool true)) rfl rfl (by kernel_rfl) (by kernel_rfl) (by kernel_rfl) (fun _ _ _ h => h) (fun _ => by go_simp) ?_
      simp only [Act.put, List.setIfInBounds_toArray, List.set_cons_succ, List.set_cons_zero, List.getElem_toArray, List.getElem_cons_succ, List.getElem_cons_zero]
      refine any_takeg (i := 18) (v := (.slice A1 N c1)) rfl rfl (by kernel_rfl) (by kernel_rfl) (by kernel_rfl) (fun _ _ _ h => h) (fun _ => by go_simp) ?_
      simp only [Act.put, List.setIfInBounds_toArray, List.set_cons_succ, List.set_cons_zero, List.getElem_toArray, List.getElem_cons_succ, List.getElem_cons_zero]
      refine any_takeg (i := 20) (v := (.slice A len c)) rfl rfl (by kernel_rfl) (by kernel_rfl) (by kernel_rfl) (fun _ _ _ h => h) (fun _ => by go_simp) ?_
      simp only [Act.put, List.setIfInBounds_toArray, List.set_cons_succ, List.set_cons_zero, List.getElem_toArray, List.getElem_cons_succ, List.getElem_cons_zero]
      refine any_takeg (i := 21) (v := (.int .i64 (kD : Int))) rfl rfl (by kernel_rfl) (by kernel_rfl) (by kernel_rfl) (fun _ _ _ h => h) (fun _ => by go_simp) ?_
      simp only [Act.put, List.setIfInBounds_toArray, List.set_cons_succ, List.set_cons_zero, List.getElem_toArray, List.getElem_cons_succ, List.getElem_cons_zero]
      refine any_takeg (i := 22) (v := (.slice A kD c)) rfl rfl (by kernel_rfl) (by kernel_rfl) (by kernel_rfl) (fun _ _ _ h => h) (fun _ => by go_simp) ?_
      simp only [Act.put, List.setIfInBounds_toArray, List.set_cons_succ, List.set_cons_zero, List.getElem_toArray, List.getElem_cons_succ, List.getElem_cons_zero]
      refine any_callg (i := 19) (by kernel_rfl) rfl rfl rfl (enters_of Try.func27 (by kernel_rfl) rfl) [.slice A1 N c1] rfl (D1.out _ hX.drew) ?_
      rintro e w5 ⟨B5, d5, rfl, own5, hB5⟩
      replace hX := hX.drew.trans (hB5.mono hX.size)
      have Q5 := Lib.hid (Rd.of_own own5)
      clear own5 hB5
      refine ⟨_, rfl, ?_⟩
      simp only [Act.put, List.setIfInBounds_toArray, List.set_cons_succ, List.set_cons_zero, List.getElem_toArray, List.getElem_cons_succ, List.getElem_cons_zero]
      refine any_callg (i := 23) (by kernel_rfl) rfl rfl rfl (enters_of Try.func16 (by kernel_rfl) rfl) [.slice B5 (b.take kD).length d5, .slice A kD c] rfl (HSM.out _ _ _ _ (HX3.out.trans (hX.mono HX3.out.size)) (by omega) Q5.out) ?_
      rintro e w6 ⟨rfl, rfl⟩
      clear Q5
      refine ⟨_, rfl, ?_⟩
      simp only [Act.put, List.setIfInBounds_toArray, List.set_cons_succ, List.set_cons_zero, List.getElem_toArray, List.getElem_cons_succ, List.getElem_cons_zero]
      refine any_takeg (i := 24) (v := (.bool true)) rfl rfl (by kernel_rfl) (by kernel_rfl) (by kernel_rfl) (fun _ _ _ h => h) (fun _ => by go_simp) ?_
      simp only [Act.put, List.setIfInBounds_toArray, List.set_cons_succ, List.set_cons_zero, List.getElem_toArray, List.getElem_cons_succ, List.getElem_cons_zero]
      refine any_takeg (i := 25) (v := (.bool true)) rfl rfl (by kernel_rfl) (by kernel_rfl) (by kernel_rfl) (fun _ _ _ h => h) (fun _ => by go_simp) ?_
      simp only [Act.put, List.setIfInBounds_toArray, List.set_cons_succ, List.set_cons_zero, List.getElem_toArray, List.getElem_cons_succ, List.getElem_cons_zero]
      refine any_takeg (i := 26) (v := (.bool true)) rfl rfl (by kernel_rfl) (by kernel_rfl) (by kernel_rfl) (fun _ _ _ h => h) (fun _ => by go_simp) ?_
      simp only [Act.put, List.setIfInBounds_toArray, List.set_cons_succ, List.set_cons_zero, List.getElem_toArray, List.getElem_cons_succ, List.getElem_cons_zero]
      refine wpAny_done (by kernel_rfl) ?_ _
      go_wp2_with fail
      refine wp_region_any (by kernel_rfl) ?_
      change wpAny _ _ _ _ _ _ _ (World.drew _)
      refine any_takeg (i := 0) (v := (.int .i64 0)) rfl rfl (by kernel_rfl) (by kernel_rfl) (by kernel_rfl) (fun _ _ _ h => h) (fun _ => by go_simp) ?_
      simp only [Act.put, List.setIfInBounds_toArray, List.set_cons_succ, List.set_cons_zero, List.getElem_toArray, List.getElem_cons_succ, List.getElem_cons_zero]
      refine any_takeg (i := 1) (v := (.bool false)) rfl rfl (by kernel_rfl) (by kernel_rfl) (by kernel_rfl) (fun _ _ _ h => h) (fun _ => by go_simp) ?_
      simp only [Act.put, List.setIfInBounds_toArray, List.set_cons_succ, List.set_cons_zero, List.getElem_toArray, List.getElem_cons_succ, List.getElem_cons_zero]
      refine any_takeg (i := 2) (v := (.bool false)) rfl rfl (by kernel_rfl) (by kernel_rfl) (by kernel_rfl) (fun _ _ _ h => h) (fun _ => by go_simp) ?_
      simp only [Act.put, List.setIfInBounds_toArray, List.set_cons_succ, List.set_cons_zero, List.getElem_toArray, List.getElem_cons_succ, List.getElem_cons_zero]
      refine any_takeg (i := 3) (v := (.slice A2 N c2)) rfl rfl (by kernel_rfl) (by kernel_rfl) (by kernel_rfl) (fun _ _ _ h => h) (fun _ => by go_simp) ?_
      simp only [Act.put, List.setIfInBounds_toArray, List.set_cons_succ, List.set_cons_zero, List.getElem_toArray, List.getElem_cons_succ, List.getElem_cons_zero]
      refine any_takeg (i := 4) (v := (.int .i64 (N : Int))) rfl rfl (by kernel_rfl) (by kernel_rfl) (by kernel_rfl) (fun _ _ _ h => h) (fun _ => by go_simp) ?_
      simp only [Act.put, List.setIfInBounds_toArray, List.set_cons_succ, List.set_cons_zero, List.getElem_toArray, List.getElem_cons_succ, List.getElem_cons_zero]
      refine any_takeg (i := 5) (v := (.int .i64 (N : Int))) rfl rfl (by kernel_rfl) (by kernel_rfl) (by kernel_rfl) (fun _ _ _ h => h) (fun _ => by go_simp) ?_
      simp only [Act.put, List.setIfInBounds_toArray, List.set_cons_succ, List.set_cons_zero, List.getElem_toArray, List.getElem_cons_succ, List.getElem_cons_zero]
      refine any_takeg (i := 6) (v := (.bool true)) rfl rfl (by kernel_rfl) (by kernel_rfl) (by kernel_rfl) (fun _ _ _ h => h) (fun _ => by go_simp) ?_
      simp only [Act.put, List.setIfInBounds_toArray, List.set_cons_succ, List.set_cons_zero, List.getElem_toArray, List.getElem_cons_succ, List.getElem_cons_zero]
      refine any_takeg (i := 7) (v := (.bool true)) rfl rfl (by kernel_rfl) (by kernel_rfl) (by kernel_rfl) (fun _ _ _ h => h) (fun _ => by go_simp) ?_
      simp only [Act.put, List.setIfInBounds_toArray, List.set_cons_succ, List.set_cons_zero, List.getElem_toArray, List.getElem_cons_succ, List.getElem_cons_zero]
      refine any_takeg (i := 8) (v := (.int .i64 (kD : Int))) rfl rfl (by kernel_rfl) (by kernel_rfl) (by kernel_rfl) (fun _ _ _ h => h) (fun _ => by go_simp) ?_
      simp only [Act.put, List.setIfInBounds_toArray, List.set_cons_succ, List.set_cons_zero, List.getElem_toArray, List.getElem_cons_succ, List.getElem_cons_zero]
      refine any_takeg (i := 9) (v := (.bool true)) rfl rfl (by kernel_rfl) (by kernel_rfl) (by kernel_rfl) (fun _ _ _ h => h) (fun _ => by go_simp) ?_
      simp only [Act.put, List.setIfInBounds_toArray, List.set_cons_succ, List.set_cons_zero, List.getElem_toArray, List.getElem_cons_succ, List.getElem_cons_zero]
      refine any_takeg (i := 10) (v := (.bool true)) rfl rfl (by kernel_rfl) (by kernel_rfl) (by kernel_rfl) (fun _ _ _ h => h) (fun _ => by go_simp) ?_
      simp only [Act.put, List.setIfInBounds_toArray, List.set_cons_succ, List.set_cons_zero, List.getElem_toArray, List.getElem_cons_succ, List.getElem_cons_zero]
      refine any_takeg (i := 11) (v := (.bool true)) rfl rfl (by kernel_rfl) (by kernel_rfl) (by kernel_rfl) (fun _ _ _ h => h) (fun _ => by go_simp) ?_
      simp only [Act.put, List.setIfInBounds_toArray, List.set_cons_succ, List.set_cons_zero, List.getElem_toArray, List.getElem_cons_succ, List.getElem_cons_zero]
      refine any_takeg (i := 12) (v := (.int .i64 (kD : Int))) rfl rfl (by kernel_rfl) (by kernel_rfl) (by kernel_rfl) (fun _ _ _ h => h) (fun _ => by go_simp) ?_
      simp only [Act.put, List.setIfInBounds_toArray, List.set_cons_succ, List.set_cons_zero, List.getElem_toArray, List.getElem_cons_succ, List.getElem_cons_zero]
      refine any_takeg (i := 13) (v := (.slice A len c)) rfl rfl (by kernel_rfl) (by kernel_rfl) (by kernel_rfl) (fun _ _ _ h => h) (fun _ => by go_simp) ?_
      simp only [Act.put, List.setIfInBounds_toArray, List.set_cons_succ, List.set_cons_zero, List.getElem_toArray, List.getElem_cons_succ, List.getElem_cons_zero]
      refine any_takeg (i := 14) (v := (.int .i64 (len : Int))) rfl rfl (by kernel_rfl) (by kernel_rfl) (by kernel_rfl) (fun _ _ _ h => h) (fun _ => by go_simp) ?_
      simp only [Act.put, List.setIfInBounds_toArray, List.set_cons_succ, List.set_cons_zero, List.getElem_toArray, List.getElem_cons_succ, List.getElem_cons_zero]
      refine any_takeg (i := 15) (v := (.bool true)) rfl rfl (by kernel_rfl) (by kernel_rfl) (by kernel_rfl) (fun _ _ _ h => h) (fun _ => by go_simp) ?_
      simp only [Act.put, List.setIfInBounds_toArray, List.set_cons_succ, List.set_cons_zero, List.getElem_toArray, List.getElem_cons_succ, List.getElem_cons_zero]
      refine any_takeg (i := 16) (v := (.bool true)) rfl rfl (by kernel_rfl) (by kernel_rfl) (by kernel_rfl) (fun _ _ _ h => h) (fun _ => by go_simp) ?_
      simp only [Act.put, List.setIfInBounds_toArray, List.set_cons_succ, List.set_cons_zero, List.getElem_toArray, List.getElem_cons_succ, List.getElem_cons_zero]
      refine any_takeg (i := 17) (v := (.bool true)) rfl rfl (by kernel_rfl) (by kernel_rfl) (by kernel_rfl) (fun _ _ _ h => h) (fun _ => by go_simp) ?_
      simp only [Act.put, List.setIfInBounds_toArray, List.set_cons_succ, List.set_cons_zero, List.getElem_toArray, List.getElem_cons_succ, List.getElem_cons_zero]
      refine any_takeg (i := 18) (v := (.slice A2 N c2)) rfl rfl (by kernel_rfl) (by kernel_rfl) (by kernel_rfl) (fun _ _ _ h => h) (fun _ => by go_simp) ?_
      simp only [Act.put, List.setIfInBounds_toArray, List.set_cons_succ, List.set_cons_zero, List.getElem_toArray, List.getElem_cons_succ, List.getElem_cons_zero]
      refine any_takeg (i := 20) (v := (.slice A len c)) rfl rfl (by kernel_rfl) (by kernel_rfl) (by kernel_rfl) (fun _ _ _ h => h) (fun _ => by go_simp) ?_
      simp only [Act.put, List.setIfInBounds_toArray, List.set_cons_succ, List.set_cons_zero, List.getElem_toArray, List.getElem_cons_succ, List.getElem_cons_zero]
      refine any_takeg (i := 21) (v := (.int .i64 (kD : Int))) rfl rfl (by kernel_rfl) (by kernel_rfl) (by kernel_rfl) (fun _ _ _ h => h) (fun _ => by go_simp) ?_
      simp only [Act.put, List.setIfInBounds_toArray, List.set_cons_succ, List.set_cons_zero, List.getElem_toArray, List.getElem_cons_succ, List.getElem_cons_zero]
      refine any_takeg (i := 22) (v := (.slice A kD c)) rfl rfl (by kernel_rfl) (by kernel_rfl) (by kernel_rfl) (fun _ _ _ h => h) (fun _ => by go_simp) ?_
      simp only [Act.put, List.setIfInBounds_toArray, List.set_cons_succ, List.set_cons_zero, List.getElem_toArray, List.getElem_cons_succ, List.getElem_cons_zero]
      refine any_callg (i := 19) (by kernel_rfl) rfl rfl rfl (enters_of Try.func29 (by kernel_rfl) rfl) [.slice A2 N c2] rfl (D2.out _ hX.drew) ?_
      rintro e w5 ⟨B5, d5, rfl, own5, hB5⟩
      replace hX := hX.drew.trans (hB5.mono hX.size)
      have Q5 := Lib.hid (Rd.of_own own5)
      clear own5 hB5
      refine ⟨_, rfl, ?_⟩
      simp only [Act.put, List.setIfInBounds_toArray, List.set_cons_succ, List.set_cons_zero, List.getElem_toArray, List.getElem_cons_succ, List.getElem_cons_zero]
      refine any_callg (i := 23) (by kernel_rfl) rfl rfl rfl (enters_of Try.func16 (by kernel_rfl) rfl) [.slice B5 (b.take kD).length d5, .slice A kD c] rfl (HSM.out _ _ _ _ (HX3.out.trans (hX.mono HX3.out.size)) (by omega) Q5.out) ?_
      rintro e w6 ⟨rfl, rfl⟩
      clear Q5
      refine ⟨_, rfl, ?_⟩
      simp only [Act.put, List.setIfInBounds_toArray, List.set_cons_succ, List.set_cons_zero, List.getElem_toArray, List.getElem_cons_succ, List.getElem_cons_zero]
      refine any_takeg (i := 24) (v := (.bool true)) rfl rfl (by kernel_rfl) (by kernel_rfl) (by kernel_rfl) (fun _ _ _ h => h) (fun _ => by go_simp) ?_
      simp only [Act.put, List.setIfInBounds_toArray, List.set_cons_succ, List.set_cons_zero, List.getElem_toArray, List.getElem_cons_succ, List.getElem_cons_zero]
      refine any_takeg (i := 25) (v := (.bool true)) rfl rfl (by kernel_rfl) (by kernel_rfl) (by kernel_rfl) (fun _ _ _ h => h) (fun _ => by go_simp) ?_
      simp only [Act.put, List.setIfInBounds_toArray, List.set_cons_succ, List.set_cons_zero, List.getElem_toArray, List.getElem_cons_succ, List.getElem_cons_zero]
      refine any_takeg (i := 26) (v := (.bool true)) rfl rfl (by kernel_rfl) (by kernel_rfl) (by kernel_rfl) (fun _ _ _ h => h) (fun _ => by go_simp) ?_
      simp only [Act.put, List.setIfInBounds_toArray, List.set_cons_succ, List.set_cons_zero, List.getElem_toArray, List.getElem_cons_succ, List.getElem_cons_zero]
      refine wpAny_done (by kernel_rfl) ?_ _
      go_wp2_with fail
      go_quiet (fail)
      replace hX := blw_draw hX nq
      try simp only [World.drewN_drewN] at hX ⊢
      generalize World.drewN _ _ = wq at hX ⊢
      go_wp2_with fail
      refine (alive4_any _).mono ?_
      rintro e w9 ⟨rfl, hB9⟩
      have FIN := Lib.hid (HX3.out.trans ((hX.trans (hB9.mono hX.size)).mono HX3.out.size))
      clear hB9 hX
      go_wp2_with fail
      go_ret
      exact ⟨rfl, FIN.out⟩
    · obtain ⟨rfl, rfl, ⟨N, rfl, hN, hl1, hl2⟩, rfl, hk, hi1, hi2, hr1, hr2⟩ := hI
      rw [HBL.out] at hk
      have D1 : Hid (∀ w, Below w3.heap.size w3 w → Calls Try.prog 27 #[.slice A1 N c1] w (Made8 (b.take kD) w)) := Lib.hid fun w hw => by
        have h5 := cp1.out
        have h6 := (R1.out.below hw).more hw.size
        rw [hl1] at h5
        have h7 : Rd w w.heap.size 1 A1 N (i64s lI) := by rw [← hl1]; exact h6
        have := runs_any A1 N c1 lI hN h5.1 h5.2 hi1 w h7
        rwa [hr1] at this
      have D2 : Hid (∀ w, Below w3.heap.size w3 w → Calls Try.prog 29 #[.slice A2 N c2] w (Made8 (b.take kD) w)) := Lib.hid fun w hw => by
        have h5 := cp2.out
        have h6 := (R2.out.below hw).more hw.size
        rw [hl2] at h5
        have h7 : Rd w w.heap.size 1 A2 N (i64s lD) := by rw [← hl2]; exact h6
        have := deltas_any A2 N c2 lD hN h5.1 h5.2 hi2 w h7
        rwa [hr2] at this
      rw [hl1, hl2]
      have m1 : (0 : Int) ≤ (kD : Int) := by omega
      have m2 : (kD : Int) ≤ (len : Int) := by omega
      have m3 : (kD : Int) ≤ (c : Int) := by omega
      have m4 : ((N : Int) == (N : Int)) = true := by simp
      obtain ⟨rfl, ⟨N', hNN, hN', hl3⟩, hkB, hr3⟩ := hJ
      obtain rfl : N = N' := by omega
      rw [HBL.out] at hkB
      have D3 : Hid (∀ w, Below w3.heap.size w3 w → Calls Try.prog 31 #[.slice A3 N c3] w (Made8 (b.take kB) w)) := Lib.hid fun w hw => by
        have h5 := cp3.out
        have h6 := (R3.out.below hw).more hw.size
        rw [hl3] at h5
        have h7 : Rd w w.heap.size 1 A3 N (bls lB) := by rw [← hl3]; exact h6
        have := bools_any A3 N c3 lB hN h5.1 h5.2 w h7
        rwa [hr3] at this
      rw [hl3]
      have p1 : (0 : Int) ≤ (kB : Int) := by omega
      have p2 : (kB : Int) ≤ (len : Int) := by omega
      have p3 : (kB : Int) ≤ (c : Int) := by omega
      have p4 : ((N : Int) == (N : Int)) = true := by simp
      clear T1 T2
      clear hl1 hl2 hi1 hi2 hr1 hr2 hl3 hr3 hNN
      go_wp2_with fail
      refine wp_region_any (by kernel_rfl) ?_
      change wpAny _ _ _ _ _ _ _ (World.drew _)
      refine any_takeg (i := 0) (v := (.int .i64 0)) rfl rfl (by kernel_rfl) (by kernel_rfl) (by kernel_rfl) (fun _ _ _ h => h) (fun _ => by go_simp) ?_
      simp only [Act.put, List.setIfInBounds_toArray, List.set_cons_succ, List.set_cons_zero, List.getElem_toArray, List.getElem_cons_succ, List.getElem_cons_zero]
      refine any_takeg (i := 1) (v := (.bool false)) rfl rfl (by kernel_rfl) (by kernel_rfl) (by kernel_rfl) (fun _ _ _ h => h) (fun _ => by go_simp) ?_
      simp only [Act.put, List.setIfInBounds_toArray, List.set_cons_succ, List.set_cons_zero, List.getElem_toArray, List.getElem_cons_succ, List.getElem_cons_zero]
      refine any_takeg (i := 2) (v := (.bool false)) rfl rfl (by kernel_rfl) (by kernel_rfl) (by kernel_rfl) (fun _ _ _ h => h) (fun _ => by go_simp) ?_
      simp only [Act.put, List.setIfInBounds_toArray, List.set_cons_succ, List.set_cons_zero, List.getElem_toArray, List.getElem_cons_succ, List.getElem_cons_zero]
      refine any_takeg (i := 3) (v := (.slice A1 N c1)) rfl rfl (by kernel_rfl) (by kernel_rfl) (by kernel_rfl) (fun _ _ _ h => h) (fun _ => by go_simp) ?_
      simp only [Act.put, List.setIfInBounds_toArray, List.set_cons_succ, List.set_cons_zero, List.getElem_toArray, List.getElem_cons_succ, List.getElem_cons_zero]
      refine any_takeg (i := 4) (v := (.int .i64 (N : Int))) rfl rfl (by kernel_rfl) (by kernel_rfl) (by kernel_rfl) (fun _ _ _ h => h) (fun _ => by go_simp) ?_
      simp only [Act.put, List.setIfInBounds_toArray, List.set_cons_succ, List.set_cons_zero, List.getElem_toArray, List.getElem_cons_succ, List.getElem_cons_zero]
      refine any_takeg (i := 5) (v := (.int .i64 (N : Int))) rfl rfl (by kernel_rfl) (by kernel_rfl) (by kernel_rfl) (fun _ _ _ h => h) (fun _ => by go_simp) ?_
      simp only [Act.put, List.setIfInBounds_toArray, List.set_cons_succ, List.set_cons_zero, List.getElem_toArray, List.getElem_cons_succ, List.getElem_cons_zero]
      refine any_takeg (i := 6) (v := (.bool true)) rfl rfl (by kernel_rfl) (by kernel_rfl) (by kernel_rfl) (fun _ _ _ h => h) (fun _ => by go_simp) ?_
      simp only [Act.put, List.setIfInBounds_toArray, List.set_cons_succ, List.set_cons_zero, List.getElem_toArray, List.getElem_cons_succ, List.getElem_cons_zero]
      refine any_takeg (i := 7) (v := (.bool true)) rfl rfl (by kernel_rfl) (by kernel_rfl) (by kernel_rfl) (fun _ _ _ h => h) (fun _ => by go_simp) ?_
      simp only [Act.put, List.setIfInBounds_toArray, List.set_cons_succ, List.set_cons_zero, List.getElem_toArray, List.getElem_cons_succ, List.getElem_cons_zero]
      refine any_takeg (i := 8) (v := (.int .i64 (kD : Int))) rfl rfl (by kernel_rfl) (by kernel_rfl) (by kernel_rfl) (fun _ _ _ h => h) (fun _ => by go_simp) ?_
      simp only [Act.put, List.setIfInBounds_toArray, List.set_cons_succ, List.set_cons_zero, List.getElem_toArray, List.getElem_cons_succ, List.getElem_cons_zero]
      refine any_takeg (i := 9) (v := (.bool true)) rfl rfl (by kernel_rfl) (by kernel_rfl) (by kernel_rfl) (fun _ _ _ h => h) (fun _ => by go_simp) ?_
      simp only [Act.put, List.setIfInBounds_toArray, List.set_cons_succ, List.set_cons_zero, List.getElem_toArray, List.getElem_cons_succ, List.getElem_cons_zero]
      refine any_takeg (i := 10) (v := (.bool true)) rfl rfl (by kernel_rfl) (by kernel_rfl) (by kernel_rfl) (fun _ _ _ h => h) (fun _ => by go_simp) ?_
      simp only [Act.put, List.setIfInBounds_toArray, List.set_cons_succ, List.set_cons_zero, List.getElem_toArray, List.getElem_cons_succ, List.getElem_cons_zero]
      refine any_takeg (i := 11) (v := (.bool true)) rfl rfl (by kernel_rfl) (by kernel_rfl) (by kernel_rfl) (fun _ _ _ h => h) (fun _ => by go_simp) ?_
      simp only [Act.put, List.setIfInBounds_toArray, List.set_cons_succ, List.set_cons_zero, List.getElem_toArray, List.getElem_cons_succ, List.getElem_cons_zero]
      refine any_takeg (i := 12) (v := (.int .i64 (kD : Int))) rfl rfl (by kernel_rfl) (by kernel_rfl) (by kernel_rfl) (fun _ _ _ h => h) (fun _ => by go_simp) ?_
      simp only [Act.put, List.setIfInBounds_toArray, List.set_cons_succ, List.set_cons_zero, List.getElem_toArray, List.getElem_cons_succ, List.getElem_cons_zero]
      refine any_takeg (i := 13) (v := (.slice A len c)) rfl rfl (by kernel_rfl) (by kernel_rfl) (by kernel_rfl) (fun _ _ _ h => h) (fun _ => by go_simp) ?_
      simp only [Act.put, List.setIfInBounds_toArray, List.set_cons_succ, List.set_cons_zero, List.getElem_toArray, List.getElem_cons_succ, List.getElem_cons_zero]
      refine any_takeg (i := 14) (v := (.int .i64 (len : Int))) rfl rfl (by kernel_rfl) (by kernel_rfl) (by kernel_rfl) (fun _ _ _ h => h) (fun _ => by go_simp) ?_
      simp only [Act.put, List.setIfInBounds_toArray, List.set_cons_succ, List.set_cons_zero, List.getElem_toArray, List.getElem_cons_succ, List.getElem_cons_zero]
      refine any_takeg (i := 15) (v := (.bool true)) rfl rfl (by kernel_rfl) (by kernel_rfl) (by kernel_rfl) (fun _ _ _ h => h) (fun _ => by go_simp) ?_
      simp only [Act.put, List.setIfInBounds_toArray, List.set_cons_succ, List.set_cons_zero, List.getElem_toArray, List.getElem_cons_succ, List.getElem_cons_zero]
      refine any_takeg (i := 16) (v := (.bool true)) rfl rfl (by kernel_rfl) (by kernel_rfl) (by kernel_rfl) (fun _ _ _ h => h) (fun _ => by go_simp) ?_
      simp only [Act.put, List.setIfInBounds_toArray, List.set_cons_succ, List.set_cons_zero, List.getElem_toArray, List.getElem_cons_succ, List.getElem_cons_zero]
      refine any_takeg (i := 17) (v := (.bool true)) rfl rfl (by kernel_rfl) (by kernel_rfl) (by kernel_rfl) (fun _ _ _ h => h) (fun _ => by go_simp) ?_
      simp only [Act.put, List.setIfInBounds_toArray, List.set_cons_succ, List.set_cons_zero, List.getElem_toArray, List.getElem_cons_succ, List.getElem_cons_zero]
      refine any_takeg (i := 18) (v := (.slice A1 N c1)) rfl rfl (by kernel_rfl) (by kernel_rfl) (by kernel_rfl) (fun _ _ _ h => h) (fun _ => by go_simp) ?_
      simp only [Act.put, List.setIfInBounds_toArray, List.set_cons_succ, List.set_cons_zero, List.getElem_toArray, List.getElem_cons_succ, List.getElem_cons_zero]
      refine any_takeg (i := 20) (v := (.slice A len c)) rfl rfl (by kernel_rfl) (by kernel_rfl) (by kernel_rfl) (fun _ _ _ h => h) (fun _ => by go_simp) ?_
      simp only [Act.put, List.setIfInBounds_toArray, List.set_cons_succ, List.set_cons_zero, List.getElem_toArray, List.getElem_cons_succ, List.getElem_cons_zero]
      refine any_takeg (i := 21) (v := (.int .i64 (kD : Int))) rfl rfl (by kernel_rfl) (by kernel_rfl) (by kernel_rfl) (fun _ _ _ h => h) (fun _ => by go_simp) ?_
      simp only [Act.put, List.setIfInBounds_toArray, List.set_cons_succ, List.set_cons_zero, List.getElem_toArray, List.getElem_cons_succ, List.getElem_cons_zero]
      refine any_takeg (i := 22) (v := (.slice A kD c)) rfl rfl (by kernel_rfl) (by kernel_rfl) (by kernel_rfl) (fun _ _ _ h => h) (fun _ => by go_simp) ?_
      simp only [Act.put, List.setIfInBounds_toArray, List.set_cons_succ, List.set_cons_zero, List.getElem_toArray, List.getElem_cons_succ, List.getElem_cons_zero]
      refine any_callg (i := 19) (by kernel_rfl) rfl rfl rfl (enters_of Try.func27 (by kernel_rfl) rfl) [.slice A1 N c1] rfl (D1.out _ hX.drew) ?_
      rintro e w5 ⟨B5, d5, rfl, own5, hB5⟩
      replace hX := hX.drew.trans (hB5.mono hX.size)
      have Q5 := Lib.hid (Rd.of_own own5)
      clear own5 hB5
      refine ⟨_, rfl, ?_⟩
      simp only [Act.put, List.setIfInBounds_toArray, List.set_cons_succ, List.set_cons_zero, List.getElem_toArray, List.getElem_cons_succ, List.getElem_cons_zero]
      refine any_callg (i := 23) (by kernel_rfl) rfl rfl rfl (enters_of Try.func16 (by kernel_rfl) rfl) [.slice B5 (b.take kD).length d5, .slice A kD c] rfl (HSM.out _ _ _ _ (HX3.out.trans (hX.mono HX3.out.size)) (by omega) Q5.out) ?_
      rintro e w6 ⟨rfl, rfl⟩
      clear Q5
      refine ⟨_, rfl, ?_⟩
      simp only [Act.put, List.setIfInBounds_toArray, List.set_cons_succ, List.set_cons_zero, List.getElem_toArray, List.getElem_cons_succ, List.getElem_cons_zero]
      refine any_takeg (i := 24) (v := (.bool true)) rfl rfl (by kernel_rfl) (by kernel_rfl) (by kernel_rfl) (fun _ _ _ h => h) (fun _ => by go_simp) ?_
      simp only [Act.put, List.setIfInBounds_toArray, List.set_cons_succ, List.set_cons_zero, List.getElem_toArray, List.getElem_cons_succ, List.getElem_cons_zero]
      refine any_takeg (i := 25) (v := (.bool true)) rfl rfl (by kernel_rfl) (by kernel_rfl) (by kernel_rfl) (fun _ _ _ h => h) (fun _ => by go_simp) ?_
      simp only [Act.put, List.setIfInBounds_toArray, List.set_cons_succ, List.set_cons_zero, List.getElem_toArray, List.getElem_cons_succ, List.getElem_cons_zero]
      refine any_takeg (i := 26) (v := (.bool true)) rfl rfl (by kernel_rfl) (by kernel_rfl) (by kernel_rfl) (fun _ _ _ h => h) (fun _ => by go_simp) ?_
      simp only [Act.put, List.setIfInBounds_toArray, List.set_cons_succ, List.set_cons_zero, List.getElem_toArray, List.getElem_cons_succ, List.getElem_cons_zero]
      refine wpAny_done (by kernel_rfl) ?_ _
      go_wp2_with fail
      refine wp_region_any (by kernel_rfl) ?_
      change wpAny _ _ _ _ _ _ _ (World.drew _)
      refine any_takeg (i := 0) (v := (.int .i64 0)) rfl rfl (by kernel_rfl) (by kernel_rfl) (by kernel_rfl) (fun _ _ _ h => h) (fun _ => by go_simp) ?_
      simp only [Act.put, List.setIfInBounds_toArray, List.set_cons_succ, List.set_cons_zero, List.getElem_toArray, List.getElem_cons_succ, List.getElem_cons_zero]
      refine any_takeg (i := 1) (v := (.bool false)) rfl rfl (by kernel_rfl) (by kernel_rfl) (by kernel_rfl) (fun _ _ _ h => h) (fun _ => by go_simp) ?_
      simp only [Act.put, List.setIfInBounds_toArray, List.set_cons_succ, List.set_cons_zero, List.getElem_toArray, List.getElem_cons_succ, List.getElem_cons_zero]
      refine any_takeg (i := 2) (v := (.bool false)) rfl rfl (by kernel_rfl) (by kernel_rfl) (by kernel_rfl) (fun _ _ _ h => h) (fun _ => by go_simp) ?_
      simp only [Act.put, List.setIfInBounds_toArray, List.set_cons_succ, List.set_cons_zero, List.getElem_toArray, List.getElem_cons_succ, List.getElem_cons_zero]
      refine any_takeg (i := 3) (v := (.slice A2 N c2)) rfl rfl (by kernel_rfl) (by kernel_rfl) (by kernel_rfl) (fun _ _ _ h => h) (fun _ => by go_simp) ?_
      simp only [Act.put, List.setIfInBounds_toArray, List.set_cons_succ, List.set_cons_zero, List.getElem_toArray, List.getElem_cons_succ, List.getElem_cons_zero]
      refine any_takeg (i := 4) (v := (.int .i64 (N : Int))) rfl rfl (by kernel_rfl) (by kernel_rfl) (by kernel_rfl) (fun _ _ _ h => h) (fun _ => by go_simp) ?_
      simp only [Act.put, List.setIfInBounds_toArray, List.set_cons_succ, List.set_cons_zero, List.getElem_toArray, List.getElem_cons_succ, List.getElem_cons_zero]
      refine any_takeg (i := 5) (v := (.int .i64 (N : Int))) rfl rfl (by kernel_rfl) (by kernel_rfl) (by kernel_rfl) (fun _ _ _ h => h) (fun _ => by go_simp) ?_
      simp only [Act.put, List.setIfInBounds_toArray, List.set_cons_succ, List.set_cons_zero, List.getElem_toArray, List.getElem_cons_succ, List.getElem_cons_zero]
      refine any_takeg (i := 6) (v := (.bool true)) rfl rfl (by kernel_rfl) (by kernel_rfl) (by kernel_rfl) (fun _ _ _ h => h) (fun _ => by go_simp) ?_
      simp only [Act.put, List.setIfInBounds_toArray, List.set_cons_succ, List.set_cons_zero, List.getElem_toArray, List.getElem_cons_succ, List.getElem_cons_zero]
      refine any_takeg (i := 7) (v := (.bool true)) rfl rfl (by kernel_rfl) (by kernel_rfl) (by kernel_rfl) (fun _ _ _ h => h) (fun _ => by go_simp) ?_
      simp only [Act.put, List.setIfInBounds_toArray, List.set_cons_succ, List.set_cons_zero, List.getElem_toArray, List.getElem_cons_succ, List.getElem_cons_zero]
      refine any_takeg (i := 8) (v := (.int .i64 (kD : Int))) rfl rfl (by kernel_rfl) (by kernel_rfl) (by kernel_rfl) (fun _ _ _ h => h) (fun _ => by go_simp) ?_
      simp only [Act.put, List.setIfInBounds_toArray, List.set_cons_succ, List.set_cons_zero, List.getElem_toArray, List.getElem_cons_succ, List.getElem_cons_zero]
      refine any_takeg (i := 9) (v := (.bool true)) rfl rfl (by kernel_rfl) (by kernel_rfl) (by kernel_rfl) (fun _ _ _ h => h) (fun _ => by go_simp) ?_
      simp only [Act.put, List.setIfInBounds_toArray, List.set_cons_succ, List.set_cons_zero, List.getElem_toArray, List.getElem_cons_succ, List.getElem_cons_zero]
      refine any_takeg (i := 10) (v := (.bool true)) rfl rfl (by kernel_rfl) (by kernel_rfl) (by kernel_rfl) (fun _ _ _ h => h) (fun _ => by go_simp) ?_
      simp only [Act.put, List.setIfInBounds_toArray, List.set_cons_succ, List.set_cons_zero, List.getElem_toArray, List.getElem_cons_succ, List.getElem_cons_zero]
      refine any_takeg (i := 11) (v := (.bool true)) rfl rfl (by kernel_rfl) (by kernel_rfl) (by kernel_rfl) (fun _ _ _ h => h) (fun _ => by go_simp) ?_
      simp only [Act.put, List.setIfInBounds_toArray, List.set_cons_succ, List.set_cons_zero, List.getElem_toArray, List.getElem_cons_succ, List.getElem_cons_zero]
      refine any_takeg (i := 12) (v := (.int .i64 (kD : Int))) rfl rfl (by kernel_rfl) (by kernel_rfl) (by kernel_rfl) (fun _ _ _ h => h) (fun _ => by go_simp) ?_
      simp only [Act.put, List.setIfInBounds_toArray, List.set_cons_succ, List.set_cons_zero, List.getElem_toArray, List.getElem_cons_succ, List.getElem_cons_zero]
      refine any_takeg (i := 13) (v := (.slice A len c)) rfl rfl (by kernel_rfl) (by kernel_rfl) (by kernel_rfl) (fun _ _ _ h => h) (fun _ => by go_simp) ?_
      simp only [Act.put, List.setIfInBounds_toArray, List.set_cons_succ, List.set_cons_zero, List.getElem_toArray, List.getElem_cons_succ, List.getElem_cons_zero]
      refine any_takeg (i := 14) (v := (.int .i64 (len : Int))) rfl rfl (by kernel_rfl) (by kernel_rfl) (by kernel_rfl) (fun _ _ _ h => h) (fun _ => by go_simp) ?_
      simp only [Act.put, List.setIfInBounds_toArray, List.set_cons_succ, List.set_cons_zero, List.getElem_toArray, List.getElem_cons_succ, List.getElem_cons_zero]
      refine any_takeg (i := 15) (v := (.bool true)) rfl rfl (by kernel_rfl) (by kernel_rfl) (by kernel_rfl) (fun _ _ _ h => h) (fun _ => by go_simp) ?_
      simp only [Act.put, List.setIfInBounds_toArray, List.set_cons_succ, List.set_cons_zero, List.getElem_toArray, List.getElem_cons_succ, List.getElem_cons_zero]
      refine any_takeg (i := 16) (v := (.bool true)) rfl rfl (by kernel_rfl) (by kernel_rfl) (by kernel_rfl) (fun _ _ _ h => h) (fun _ => by go_simp) ?_
      simp only [Act.put, List.setIfInBounds_toArray, List.set_cons_succ, List.set_cons_zero, List.getElem_toArray, List.getElem_cons_succ, List.getElem_cons_zero]
      refine any_takeg (i := 17) (v := (.bool true)) rfl rfl (by kernel_rfl) (by kernel_rfl) (by kernel_rfl) (fun _ _ _ h => h) (fun _ => by go_simp) ?_
      simp only [Act.put, List.setIfInBounds_toArray, List.set_cons_succ, List.set_cons_zero, List.getElem_toArray, List.getElem_cons_succ, List.getElem_cons_zero]
      refine any_takeg (i := 18) (v := (.slice A2 N c2)) rfl rfl (by kernel_rfl) (by kernel_rfl) (by kernel_rfl) (fun _ _ _ h => h) (fun _ => by go_simp) ?_
      simp only [Act.put, List.setIfInBounds_toArray, List.set_cons_succ, List.set_cons_zero, List.getElem_toArray, List.getElem_cons_succ, List.getElem_cons_zero]
      refine any_takeg (i := 20) (v := (.slice A len c)) rfl rfl (by kernel_rfl) (by kernel_rfl) (by kernel_rfl) (fun _ _ _ h => h) (fun _ => by go_simp) ?_
      simp only [Act.put, List.setIfInBounds_toArray, List.set_cons_succ, List.set_cons_zero, List.getElem_toArray, List.getElem_cons_succ, List.getElem_cons_zero]
      refine any_takeg (i := 21) (v := (.int .i64 (kD : Int))) rfl rfl (by kernel_rfl) (by kernel_rfl) (by kernel_rfl) (fun _ _ _ h => h) (fun _ => by go_simp) ?_
      simp only [Act.put, List.setIfInBounds_toArray, List.set_cons_succ, List.set_cons_zero, List.getElem_toArray, List.getElem_cons_succ, List.getElem_cons_zero]
      refine any_takeg (i := 22) (v := (.slice A kD c)) rfl rfl (by kernel_rfl) (by kernel_rfl) (by kernel_rfl) (fun _ _ _ h => h) (fun _ => by go_simp) ?_
      simp only [Act.put, List.setIfInBounds_toArray, List.set_cons_succ, List.set_cons_zero, List.getElem_toArray, List.getElem_cons_succ, List.getElem_cons_zero]
      refine any_callg (i := 19) (by kernel_rfl) rfl rfl rfl (enters_of Try.func29 (by kernel_rfl) rfl) [.slice A2 N c2] rfl (D2.out _ hX.drew) ?_
      rintro e w5 ⟨B5, d5, rfl, own5, hB5⟩
      replace hX := hX.drew.trans (hB5.mono hX.size)
      have Q5 := Lib.hid (Rd.of_own own5)
      clear own5 hB5
      refine ⟨_, rfl, ?_⟩
      simp only [Act.put, List.setIfInBounds_toArray, List.set_cons_succ, List.set_cons_zero, List.getElem_toArray, List.getElem_cons_succ, List.getElem_cons_zero]
      refine any_callg (i := 23) (by kernel_rfl) rfl rfl rfl (enters_of Try.func16 (by kernel_rfl) rfl) [.slice B5 (b.take kD).length d5, .slice A kD c] rfl (HSM.out _ _ _ _ (HX3.out.trans (hX.mono HX3.out.size)) (by omega) Q5.out) ?_
      rintro e w6 ⟨rfl, rfl⟩
      clear Q5
      refine ⟨_, rfl, ?_⟩
      simp only [Act.put, List.setIfInBounds_toArray, List.set_cons_succ, List.set_cons_zero, List.getElem_toArray, List.getElem_cons_succ, List.getElem_cons_zero]
      refine any_takeg (i := 24) (v := (.bool true)) rfl rfl (by kernel_rfl) (by kernel_rfl) (by kernel_rfl) (fun _ _ _ h => h) (fun _ => by go_simp) ?_
      simp only [Act.put, List.setIfInBounds_toArray, List.set_cons_succ, List.set_cons_zero, List.getElem_toArray, List.getElem_cons_succ, List.getElem_cons_zero]
      refine any_takeg (i := 25) (v := (.bool true)) rfl rfl (by kernel_rfl) (by kernel_rfl) (by kernel_rfl) (fun _ _ _ h => h) (fun _ => by go_simp) ?_
      simp only [Act.put, List.setIfInBounds_toArray, List.set_cons_succ, List.set_cons_zero, List.getElem_toArray, List.getElem_cons_succ, List.getElem_cons_zero]
      refine any_takeg (i := 26) (v := (.bool true)) rfl rfl (by kernel_rfl) (by kernel_rfl) (by kernel_rfl) (fun _ _ _ h => h) (fun _ => by go_simp) ?_
      simp only [Act.put, List.setIfInBounds_toArray, List.set_cons_succ, List.set_cons_zero, List.getElem_toArray, List.getElem_cons_succ, List.getElem_cons_zero]
      refine wpAny_done (by kernel_rfl) ?_ _
      go_wp2_with fail
      refine wp_region_any (by kernel_rfl) ?_
      change wpAny _ _ _ _ _ _ _ (World.drew _)
      refine any_takeg (i := 0) (v := (.int .i64 0)) rfl rfl (by kernel_rfl) (by kernel_rfl) (by kernel_rfl) (fun _ _ _ h => h) (fun _ => by go_simp) ?_
      simp only [Act.put, List.setIfInBounds_toArray, List.set_cons_succ, List.set_cons_zero, List.getElem_toArray, List.getElem_cons_succ, List.getElem_cons_zero]
      refine any_takeg (i := 1) (v := (.bool false)) rfl rfl (by kernel_rfl) (by kernel_rfl) (by kernel_rfl) (fun _ _ _ h => h) (fun _ => by go_simp) ?_
      simp only [Act.put, List.setIfInBounds_toArray, List.set_cons_succ, List.set_cons_zero, List.getElem_toArray, List.getElem_cons_succ, List.getElem_cons_zero]
      refine any_takeg (i := 2) (v := (.bool false)) rfl rfl (by kernel_rfl) (by kernel_rfl) (by kernel_rfl) (fun _ _ _ h => h) (fun _ => by go_simp) ?_
      simp only [Act.put, List.setIfInBounds_toArray, List.set_cons_succ, List.set_cons_zero, List.getElem_toArray, List.getElem_cons_succ, List.getElem_cons_zero]
      refine any_takeg (i := 3) (v := (.slice A3 N c3)) rfl rfl (by kernel_rfl) (by kernel_rfl) (by kernel_rfl) (fun _ _ _ h => h) (fun _ => by go_simp) ?_
      simp only [Act.put, List.setIfInBounds_toArray, List.set_cons_succ, List.set_cons_zero, List.getElem_toArray, List.getElem_cons_succ, List.getElem_cons_zero]
      refine any_takeg (i := 4) (v := (.int .i64 (N : Int))) rfl rfl (by kernel_rfl) (by kernel_rfl) (by kernel_rfl) (fun _ _ _ h => h) (fun _ => by go_simp) ?_
      simp only [Act.put, List.setIfInBounds_toArray, List.set_cons_succ, List.set_cons_zero, List.getElem_toArray, List.getElem_cons_succ, List.getElem_cons_zero]
      refine any_takeg (i := 5) (v := (.int .i64 (N : Int))) rfl rfl (by kernel_rfl) (by kernel_rfl) (by kernel_rfl) (fun _ _ _ h => h) (fun _ => by go_simp) ?_
      simp only [Act.put, List.setIfInBounds_toArray, List.set_cons_succ, List.set_cons_zero, List.getElem_toArray, List.getElem_cons_succ, List.getElem_cons_zero]
      refine any_takeg (i := 6) (v := (.bool true)) rfl rfl (by kernel_rfl) (by kernel_rfl) (by kernel_rfl) (fun _ _ _ h => h) (fun _ => by go_simp) ?_
      simp only [Act.put, List.setIfInBounds_toArray, List.set_cons_succ, List.set_cons_zero, List.getElem_toArray, List.getElem_cons_succ, List.getElem_cons_zero]
      refine any_takeg (i := 7) (v := (.bool true)) rfl rfl (by kernel_rfl) (by kernel_rfl) (by kernel_rfl) (fun _ _ _ h => h) (fun _ => by go_simp) ?_
      simp only [Act.put, List.setIfInBounds_toArray, List.set_cons_succ, List.set_cons_zero, List.getElem_toArray, List.getElem_cons_succ, List.getElem_cons_zero]
      refine any_takeg (i := 8) (v := (.int .i64 (kB : Int))) rfl rfl (by kernel_rfl) (by kernel_rfl) (by kernel_rfl) (fun _ _ _ h => h) (fun _ => by go_simp) ?_
      simp only [Act.put, List.setIfInBounds_toArray, List.set_cons_succ, List.set_cons_zero, List.getElem_toArray, List.getElem_cons_succ, List.getElem_cons_zero]
      refine any_takeg (i := 9) (v := (.bool true)) rfl rfl (by kernel_rfl) (by kernel_rfl) (by kernel_rfl) (fun _ _ _ h => h) (fun _ => by go_simp) ?_
      simp only [Act.put, List.setIfInBounds_toArray, List.set_cons_succ, List.set_cons_zero, List.getElem_toArray, List.getElem_cons_succ, List.getElem_cons_zero]
      refine any_takeg (i := 10) (v := (.bool true)) rfl rfl (by kernel_rfl) (by kernel_rfl) (by kernel_rfl) (fun _ _ _ h => h) (fun _ => by go_simp) ?_
      simp only [Act.put, List.setIfInBounds_toArray, List.set_cons_succ, List.set_cons_zero, List.getElem_toArray, List.getElem_cons_succ, List.getElem_cons_zero]
      refine any_takeg (i := 11) (v := (.bool true)) rfl rfl (by kernel_rfl) (by kernel_rfl) (by kernel_rfl) (fun _ _ _ h => h) (fun _ => by go_simp) ?_
      simp only [Act.put, List.setIfInBounds_toArray, List.set_cons_succ, List.set_cons_zero, List.getElem_toArray, List.getElem_cons_succ, List.getElem_cons_zero]
      refine any_takeg (i := 12) (v := (.int .i64 (kB : Int))) rfl rfl (by kernel_rfl) (by kernel_rfl) (by kernel_rfl) (fun _ _ _ h => h) (fun _ => by go_simp) ?_
      simp only [Act.put, List.setIfInBounds_toArray, List.set_cons_succ, List.set_cons_zero, List.getElem_toArray, List.getElem_cons_succ, List.getElem_cons_zero]
      refine any_takeg (i := 13) (v := (.slice A len c)) rfl rfl (by kernel_rfl) (by kernel_rfl) (by kernel_rfl) (fun _ _ _ h => h) (fun _ => by go_simp) ?_
      simp only [Act.put, List.setIfInBounds_toArray, List.set_cons_succ, List.set_cons_zero, List.getElem_toArray, List.getElem_cons_succ, List.getElem_cons_zero]
      refine any_takeg (i := 14) (v := (.int .i64 (len : Int))) rfl rfl (by kernel_rfl) (by kernel_rfl) (by kernel_rfl) (fun _ _ _ h => h) (fun _ => by go_simp) ?_
      simp only [Act.put, List.setIfInBounds_toArray, List.set_cons_succ, List.set_cons_zero, List.getElem_toArray, List.getElem_cons_succ, List.getElem_cons_zero]
      refine any_takeg (i := 15) (v := (.bool true)) rfl rfl (by kernel_rfl) (by kernel_rfl) (by kernel_rfl) (fun _ _ _ h => h) (fun _ => by go_simp) ?_
      simp only [Act.put, List.setIfInBounds_toArray, List.set_cons_succ, List.set_cons_zero, List.getElem_toArray, List.getElem_cons_succ, List.getElem_cons_zero]
      refine any_takeg (i := 16) (v := (.bool true)) rfl rfl (by kernel_rfl) (by kernel_rfl) (by kernel_rfl) (fun _ _ _ h => h) (fun _ => by go_simp) ?_
      simp only [Act.put, List.setIfInBounds_toArray, List.set_cons_succ, List.set_cons_zero, List.getElem_toArray, List.getElem_cons_succ, List.getElem_cons_zero]
      refine any_takeg (i := 17) (v := (.bool true)) rfl rfl (by kernel_rfl) (by kernel_rfl) (by kernel_rfl) (fun _ _ _ h => h) (fun _ => by go_simp) ?_
      simp only [Act.put, List.setIfInBounds_toArray, List.set_cons_succ, List.set_cons_zero, List.getElem_toArray, List.getElem_cons_succ, List.getElem_cons_zero]
      refine any_takeg (i := 18) (v := (.slice A3 N c3)) rfl rfl (by kernel_rfl) (by kernel_rfl) (by kernel_rfl) (fun _ _ _ h => h) (fun _ => by go_simp) ?_
      simp only [Act.put, List.setIfInBounds_toArray, List.set_cons_succ, List.set_cons_zero, List.getElem_toArray, List.getElem_cons_succ, List.getElem_cons_zero]
      refine any_takeg (i := 20) (v := (.slice A len c)) rfl rfl (by kernel_rfl) (by kernel_rfl) (by kernel_rfl) (fun _ _ _ h => h) (fun _ => by go_simp) ?_
      simp only [Act.put, List.setIfInBounds_toArray, List.set_cons_succ, List.set_cons_zero, List.getElem_toArray, List.getElem_cons_succ, List.getElem_cons_zero]
      refine any_takeg (i := 21) (v := (.int .i64 (kB : Int))) rfl rfl (by kernel_rfl) (by kernel_rfl) (by kernel_rfl) (fun _ _ _ h => h) (fun _ => by go_simp) ?_
      simp only [Act.put, List.setIfInBounds_toArray, List.set_cons_succ, List.set_cons_zero, List.getElem_toArray, List.getElem_cons_succ, List.getElem_cons_zero]
      refine any_takeg (i := 22) (v := (.slice A kB c)) rfl rfl (by kernel_rfl) (by kernel_rfl) (by kernel_rfl) (fun _ _ _ h => h) (fun _ => by go_simp) ?_
      simp only [Act.put, List.setIfInBounds_toArray, List.set_cons_succ, List.set_cons_zero, List.getElem_toArray, List.getElem_cons_succ, List.getElem_cons_zero]
      refine any_callg (i := 19) (by kernel_rfl) rfl rfl rfl (enters_of Try.func31 (by kernel_rfl) rfl) [.slice A3 N c3] rfl (D3.out _ hX.drew) ?_
      rintro e w5 ⟨B5, d5, rfl, own5, hB5⟩
      replace hX := hX.drew.trans (hB5.mono hX.size)
      have Q5 := Lib.hid (Rd.of_own own5)
      clear own5 hB5
      refine ⟨_, rfl, ?_⟩
      simp only [Act.put, List.setIfInBounds_toArray, List.set_cons_succ, List.set_cons_zero, List.getElem_toArray, List.getElem_cons_succ, List.getElem_cons_zero]
      refine any_callg (i := 23) (by kernel_rfl) rfl rfl rfl (enters_of Try.func16 (by kernel_rfl) rfl) [.slice B5 (b.take kB).length d5, .slice A kB c] rfl (HSM.out _ _ _ _ (HX3.out.trans (hX.mono HX3.out.size)) (by omega) Q5.out) ?_
      rintro e w6 ⟨rfl, rfl⟩
      clear Q5
      refine ⟨_, rfl, ?_⟩
      simp only [Act.put, List.setIfInBounds_toArray, List.set_cons_succ, List.set_cons_zero, List.getElem_toArray, List.getElem_cons_succ, List.getElem_cons_zero]
      refine any_takeg (i := 24) (v := (.bool true)) rfl rfl (by kernel_rfl) (by kernel_rfl) (by kernel_rfl) (fun _ _ _ h => h) (fun _ => by go_simp) ?_
      simp only [Act.put, List.setIfInBounds_toArray, List.set_cons_succ, List.set_cons_zero, List.getElem_toArray, List.getElem_cons_succ, List.getElem_cons_zero]
      refine any_takeg (i := 25) (v := (.bool true)) rfl rfl (by kernel_rfl) (by kernel_rfl) (by kernel_rfl) (fun _ _ _ h => h) (fun _ => by go_simp) ?_
      simp only [Act.put, List.setIfInBounds_toArray, List.set_cons_succ, List.set_cons_zero, List.getElem_toArray, List.getElem_cons_succ, List.getElem_cons_zero]
      refine any_takeg (i := 26) (v := (.bool true)) rfl rfl (by kernel_rfl) (by kernel_rfl) (by kernel_rfl) (fun _ _ _ h => h) (fun _ => by go_simp) ?_
      simp only [Act.put, List.setIfInBounds_toArray, List.set_cons_succ, List.set_cons_zero, List.getElem_toArray, List.getElem_cons_succ, List.getElem_cons_zero]
      refine wpAny_done (by kernel_rfl) ?_ _
      go_wp2_with fail
      refine (alive4_any _).mono ?_
      rintro e w9 ⟨rfl, hB9⟩
      have FIN := Lib.hid (HX3.out.trans ((hX.trans (hB9.mono hX.size)).mono HX3.out.size))
      clear hB9 hX
      go_wp2_with fail
      go_ret
      exact ⟨rfl, FIN.out⟩
end Go.Proofs.Ytokpcpopibpebaa.columnOnly
