/-
  The contract of stands.
-/
import Derived.Test.YtcdhndhgainadaaCountF
import Derived.Deep.RegionWith
namespace Go.Proofs.Ytcdhndhgainadaa
open Go Go.RowKit
set_option linter.unusedVariables false

mutual
/-- does a stamp stand in a tree -/
def standsT (sn sr : Int) : Tree → Bool
  | .node n r k tn ks => (n == sn && r == sr) || standsL sn sr ks
def standsL (sn sr : Int) : List Tree → Bool
  | [] => false
  | t :: ts => standsT sn sr t || standsL sn sr ts
end
theorem standsL_mem {sn sr : Int} : ∀ {ks : List Tree} {t : Tree}, t ∈ ks → standsT sn sr t = true → standsL sn sr ks = true
  | u :: us, t, h, ht => by
    rw [standsL]
    rcases List.mem_cons.1 h with rfl | h
    · rw [ht]; rfl
    · rw [standsL_mem h ht, Bool.or_true]
theorem standsL_none {sn sr : Int} : ∀ {ks : List Tree}, (∀ (j : Nat) t, j < ks.length → ks[j]? = some t → standsT sn sr t = false) → standsL sn sr ks = false
  | [], _ => by rw [standsL]
  | u :: us, h => by
    rw [standsL, h 0 u (by simp) rfl, standsL_none (fun j t hj ht => h (j + 1) t (by simpa using hj) (by simpa using ht))]
    rfl

mutual
/-- a fault is somewhere -/
theorem fault_stands : ∀ (root : Bool) (p : Kd) (t : Tree), (faultT root p t).2.2 ≠ .fine → standsT (faultT root p t).1 (faultT root p t).2.1 t = true
  | root, p, .node n r k tn ks, h => by
    by_cases hw : wy root p (kd k) tn ks.length = .fine
    · rw [faultT_fine hw] at h ⊢
      rw [standsT, faultL_stands (kd k) ks h, Bool.or_true]
    · rw [faultT_amiss hw, standsT]
      simp
theorem faultL_stands : ∀ (p : Kd) (ks : List Tree), (faultL p ks).2.2 ≠ .fine → standsL (faultL p ks).1 (faultL p ks).2.1 ks = true
  | p, [], h => by rw [faultL] at h; exact absurd rfl h
  | p, t :: ts, h => by
    by_cases ht : (faultT false p t).2.2 = .fine
    · rw [faultL, if_pos ht] at h ⊢
      rw [standsL, faultL_stands p ts h, Bool.or_true]
    · rw [faultL, if_neg ht] at h ⊢
      rw [standsL, fault_stands false p t ht]
      rfl
end

set_option maxRecDepth 100000 in
set_option maxHeartbeats 4000000 in
theorem stands_any (sn sr : Int) : ∀ (N : Nat) (t : Tree), tsz t < N → ∀ (v : List Value) (B : Nat) (w : World), Nd w B v t → B ≤ w.heap.size →
    Calls Try.prog 24 #[.agg v.toArray, .agg #[.int .i64 sn, .int .i64 sr]] w fun e w' => e = .returned (.bool (standsT sn sr t)) ∧ Below w.heap.size w w' := by
  intro N
  induction N with
  | zero => intro t h; omega
  | succ N ih =>
    intro t hN v B w hNd hB
    cases hNd with
    | mk n r k AA an ac A c TA tn tc kc ks hk hkids hcap hmax htn =>
    obtain ⟨m, hm⟩ : ∃ m, ks.length = m := ⟨_, rfl⟩
    have HI := Lib.hid (fun (i : Nat) (u : Tree) (hu : ks[i]? = some u) (w1 : World) (h1 : Nd w1 B (kc i) u) (hB1 : B ≤ w1.heap.size) => ih u (by have := tree_size (n := n) (r := r) (k := k) (tn := tn) hu; omega) (kc i) B w1 h1 hB1)
    have HK := Lib.hid hk
    have HKK := Lib.hid hkids
    have HM := Lib.hid hm
    rw [hm] at hcap ⊢
    clear ih hk hkids hN hm
    have HBB := Lib.hid hB
    clear hB
    have hF0 : Below w.heap.size w ((w.alloc (.cells #[.int .i64 n, .int .i64 r, .string k, .slice AA an ac, .slice TA tn tc, .slice A m c] 31)).alloc (.cells #[.int .i64 sn, .int .i64 sr] 26)) := ((Below.refl _ w).alloc (Nat.le_refl _) _).alloc (by simp) _
    have hS : NAt w #[.int .i64 n, .int .i64 r, .string k, .slice AA an ac, .slice TA tn tc, .slice A m c] ((w.alloc (.cells #[.int .i64 n, .int .i64 r, .string k, .slice AA an ac, .slice TA tn tc, .slice A m c] 31)).alloc (.cells #[.int .i64 sn, .int .i64 sr] 26)) :=
      ⟨hF0, (BoxN.made _ _ _).alloc _⟩
    have hR : BoxN ((w.alloc (.cells #[.int .i64 n, .int .i64 r, .string k, .slice AA an ac, .slice TA tn tc, .slice A m c] 31)).alloc (.cells #[.int .i64 sn, .int .i64 sr] 26)) (w.heap.size + 1) #[.int .i64 sn, .int .i64 sr] 26 := by
      have := BoxN.made (w.alloc (.cells #[.int .i64 n, .int .i64 r, .string k, .slice AA an ac, .slice TA tn tc, .slice A m c] 31)) #[.int .i64 sn, .int .i64 sr] 26
      rwa [World.size_alloc] at this
    have HS0 := Lib.hid hS
    have HR0 := Lib.hid hR
    have HF0 := Lib.hid hF0
    clear hS hR hF0
    go_enter Try.func24, Try.ntmps24
    by_cases hsame : n = sn ∧ r = sr
    · obtain ⟨rfl, rfl⟩ := hsame
      have h1 : (n == n) = true := by simp
      have h2 : (r == r) = true := by simp
      go_wp2_with fail
      go_ret
      exact ⟨ret_bool (by rw [standsT]; simp), HF0.out⟩
    · have hq : (n == sn && r == sr) = false := by simpa using hsame
      have HQ := Lib.hid hq
      have hcase : (n == sn) = false ∨ ((n == sn) = true ∧ (r == sr) = false) := by
        by_cases h : n = sn
        · exact .inr ⟨by simpa using h, by simpa using fun h2 => hsame ⟨h, h2⟩⟩
        · exact .inl (by simpa using h)
      clear hsame
      rcases hcase with g1 | ⟨g1, g2⟩
      all_goals
        clear hq
        go_wp2_with fail
        go_loopw [5] (fun i wr => ∃ (j : Nat), j ≤ m ∧ i = .int .i64 j ∧ NAt w #[.int .i64 n, .int .i64 r, .string k, .slice AA an ac, .slice TA tn tc, .slice A m c] wr ∧ BoxN wr (w.heap.size + 1) #[.int .i64 sn, .int .i64 sr] 26 ∧ ∀ (i : Nat) t, i < j → ks[i]? = some t → standsT sn sr t = false) (fun i _ => m - (intOf i).toNat)
        case atStart => exact ⟨0, Nat.zero_le _, rfl, HS0.out, HR0.out, fun i t h => absurd h (Nat.not_lt_zero _)⟩
        case round =>
          clear HS0 HR0 HF0
          obtain ⟨j, hj, rfl, hS, hR, hno⟩ := hrel
          have hji : (0 : Int) ≤ (j : Int) := by omega
          have c5 : wr.cell? ⟨w.heap.size, 5, none⟩ = some (.slice A m c) := hS.node.cell (j := 5) rfl
          have s0 : wr.cell? ⟨w.heap.size + 1, 0, none⟩ = some (.int .i64 sn) := hR.cell (j := 0) rfl
          have s1 : wr.cell? ⟨w.heap.size + 1, 1, none⟩ = some (.int .i64 sr) := hR.cell (j := 1) rfl
          have HS := Lib.hid hS
          have HR := Lib.hid hR
          have HNO := Lib.hid hno
          clear hno hR
          by_cases hlt : j < m
          · obtain ⟨u, hu⟩ : ∃ u, ks[j]? = some u := ⟨ks[j]'(by rw [HM.out]; exact hlt), List.getElem?_eq_getElem _⟩
            have hne : ks ≠ [] := by intro h; rw [h] at hu; simp at hu
            obtain ⟨b, off, rfl, hb, hcs⟩ := HK.out.resolve_left hne
            have hndk := HKK.out j u hu
            obtain ⟨kn, kr, kx, kAA, kan, kac, kTA, ktn, ktc, kA, km, kc2, hsix⟩ := hndk.six
            have hbw : b < w.heap.size := by have := HBB.out; omega
            have cc : ∀ jj v, (kc j)[jj]? = some v → wr.cell? ⟨b, off + j * 6 + jj, none⟩ = some v := fun jj v hv => by
              rw [Nat.add_assoc]
              exact (HS.out.below.cell (p := ⟨b, _, none⟩) hbw).trans (hcs j (by rw [HM.out]; exact hlt) jj v hv)
            rw [hsix] at cc
            have k0 : wr.cell? ⟨b, off + j * 6, none⟩ = some (.int .i64 kn) := cc 0 _ rfl
            have k1 : wr.cell? ⟨b, off + j * 6 + 1, none⟩ = some (.int .i64 kr) := cc 1 _ rfl
            have k2 : wr.cell? ⟨b, off + j * 6 + 2, none⟩ = some (.string kx) := cc 2 _ rfl
            have k3 : wr.cell? ⟨b, off + j * 6 + 3, none⟩ = some (.slice kAA kan kac) := cc 3 _ rfl
            have k4 : wr.cell? ⟨b, off + j * 6 + 4, none⟩ = some (.slice kTA ktn ktc) := cc 4 _ rfl
            have k5 : wr.cell? ⟨b, off + j * 6 + 5, none⟩ = some (.slice kA km kc2) := cc 5 _ rfl
            have HCALL := Lib.hid (HI.out j u hu wr.drew)
            rw [hsix] at HCALL hndk
            have HNDK := Lib.hid (hndk.keep (w' := wr.drew) (Nat.le_refl _) fun q hq => hS.below.cell (Nat.lt_of_lt_of_le hq HBB.out))
            have HSZ : Hid (B ≤ wr.drew.heap.size) := Lib.hid (Nat.le_trans HBB.out hS.below.size)
            have HU := Lib.hid hu
            obtain ⟨x, hx⟩ : ∃ x, standsT sn sr u = x := ⟨_, rfl⟩
            rw [hx] at HCALL
            have HX := Lib.hid hx
            have hji2 : (j : Int) < (m : Int) := by omega
            clear cc hcs hndk hu hne hsix HKK HK HI hS hx
            go_wp2_with fail
            go_region_with (go_at_call 24; refine (HCALL.out HNDK.out HSZ.out).mono ?_; rintro e w4 ⟨rfl, hB4⟩; have HB4 := Lib.hid hB4; clear hB4)
            all_goals
              have HS4 : Hid (NAt w #[.int .i64 n, .int .i64 r, .string k, .slice AA an ac, .slice TA tn tc, .slice (some ⟨b, off, none⟩) m c] w4) := Lib.hid ⟨(HS.out.below.trans (Below.refl _ _).drew).trans (HB4.out.mono HS.out.below.size), HS.out.node.below (w := wr.drew) HB4.out HS.out.node.lt⟩
              have HR4 : Hid (BoxN w4 (w.heap.size + 1) #[.int .i64 sn, .int .i64 sr] 26) := Lib.hid (HR.out.below (w := wr.drew) HB4.out HR.out.lt)
              clear HB4 HS HR HCALL HNDK HSZ c5 k0 k1 k2 k3 k4 k5 s0 s1
              cases x with
              | true =>
                have hfin : standsT sn sr (.node n r k tn ks) = true := by rw [standsT, standsL_mem (List.mem_of_getElem? HU.out) HX.out, Bool.or_true]
                have HFIN := Lib.hid hfin
                clear hfin
                go_wp2_with fail
                go_ret
                exact ⟨by rw [HFIN.out]; rfl, HS4.out.below⟩
              | false =>
                have HNO5 : Hid (∀ (i : Nat) t, i < j + 1 → ks[i]? = some t → standsT sn sr t = false) := Lib.hid fun i t hi ht => by
                  rcases Nat.lt_or_ge i j with h1 | h1
                  · exact HNO.out i t h1 ht
                  · obtain rfl : i = j := by omega
                    rw [HU.out] at ht; cases ht; exact HX.out
                go_wp2_with fail
                go_roundw
                case rel => exact ⟨j + 1, by omega, by go_num, HS4.out, HR4.out, HNO5.out⟩
                case measure => simp [intOf]; omega
          · obtain rfl : j = m := by omega
            have hfin : standsT sn sr (.node n r k tn ks) = false := by rw [standsT, HQ.out, standsL_none fun i t hi ht => HNO.out i t (by rw [HM.out] at hi; exact hi) ht]; rfl
            have HFIN := Lib.hid hfin
            clear hfin hS
            go_wp2_with fail
            go_ret
            exact ⟨by rw [HFIN.out]; rfl, HS.out.below⟩
end Go.Proofs.Ytcdhndhgainadaa
