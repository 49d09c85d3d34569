/-
  The contract of the document's fault.
-/
import Derived.Test.YtcdhndhgainadaaFaultAll
import Derived.Deep.RegionWith
namespace Go.Proofs.Ytcdhndhgainadaa
open Go Go.RowKit
set_option linter.unusedVariables false
set_option linter.unusedSimpArgs false

set_option maxRecDepth 100000 in
set_option maxHeartbeats 8000000 in
theorem fault_anyZN (n r : Int) (k : ByteArray) (tn : Nat) (ks : List Tree) (ih : ∀ (i : Nat) u, ks[i]? = some u → FaultAll u) (v : List Value) (p : ByteArray) (root : Bool) (hcase : root = false ∧ ¬ 0 < tn ∧ (kd k).needs = false) (B : Nat) (w : World) (hNd : Nd w B v (.node n r k tn ks)) (hB : B ≤ w.heap.size) :
    Calls Try.prog 37 #[.agg v.toArray, .string p, .bool root] w fun e w' => e = .returned (fltV (faultT root (kd p) (.node n r k tn ks))) ∧ Below w.heap.size w w' := by
    cases hNd with
    | mk n r k AA an ac A c TA tn tc kc ks hk hkids hcap hmax htn =>
    obtain ⟨m, hm⟩ : ∃ m, ks.length = m := ⟨_, rfl⟩
    obtain ⟨K, hK⟩ : ∃ K, kd k = K := ⟨_, rfl⟩
    obtain ⟨P, hP⟩ : ∃ P, kd p = P := ⟨_, rfl⟩
    have HC1 := Lib.hid (fun w1 => known_any k w1)
    have HC2 := Lib.hid (fun w1 => rallows_any p k w1)
    have HC3 := Lib.hid (fun w1 => rholds_any k w1)
    have HC4 := Lib.hid (fun w1 => needs_any k w1)
    have HD := Lib.hid (is_doc k)
    have HI := Lib.hid (fun (i : Nat) (u : Tree) (hu : ks[i]? = some u) (w1 : World) (h1 : Nd w1 B (kc i) u) (hB1 : B ≤ w1.heap.size) => ih i u hu (kc i) k false B w1 h1 hB1)
    have HK := Lib.hid hk
    have HKK := Lib.hid hkids
    have HM := Lib.hid hm
    rw [hm] at hcap ⊢
    clear ih hk hkids hm
    simp only [hK, hP] at HC1 HC2 HC3 HC4 HD
    have HKD := Lib.hid hK
    have HPD := Lib.hid hP
    have HBB := Lib.hid hB
    clear hB hK hP
    go_enter Try.func37, Try.ntmps37
    go_wp2_with fail
    refine (HC1.out _).mono ?_
    rintro e w' ⟨rfl, rfl⟩
    go_wp2_with fail
    refine (HC2.out _).mono ?_
    rintro e w' ⟨rfl, rfl⟩
    go_wp2_with fail
    refine (HC3.out _).mono ?_
    rintro e w' ⟨rfl, rfl⟩
    go_wp2_with fail
    refine (HC4.out _).mono ?_
    rintro e w' ⟨rfl, rfl⟩
    clear HC1 HC2 HC3 HC4
    have hX := (BoxN.made w #[.int .i64 n, .int .i64 r, .string k, .slice AA an ac, .slice TA tn tc, .slice A m c] 31).alloc (.cells #[.int .i64 0, .int .i64 0] 26)
    have hR := BoxN.made (w.alloc (.cells #[.int .i64 n, .int .i64 r, .string k, .slice AA an ac, .slice TA tn tc, .slice A m c] 31)) #[.int .i64 0, .int .i64 0] 26
    rw [World.size_alloc] at hR
    have hF : Below w.heap.size w ((w.alloc (.cells #[.int .i64 n, .int .i64 r, .string k, .slice AA an ac, .slice TA tn tc, .slice A m c] 31)).alloc (.cells #[.int .i64 0, .int .i64 0] 26)) := ((Below.refl _ w).alloc (Nat.le_refl _) _).alloc (by simp) _
    have hS : FAt w #[.int .i64 n, .int .i64 r, .string k, .slice AA an ac, .slice TA tn tc, .slice A m c] (kd k) ks 0 _ := ⟨hF, hX, hR, CleanTo.zero _ _⟩
    have HS0 := Lib.hid hS
    have hBF : Below w.heap.size w ((w.alloc (.cells #[.int .i64 n, .int .i64 r, .string k, .slice AA an ac, .slice TA tn tc, .slice A m c] 31)).alloc (.cells #[.int .i64 n, .int .i64 r] 26)) := ((Below.refl _ w).alloc (Nat.le_refl _) _).alloc (by simp) _
    have HBF := Lib.hid hBF
    clear hX hR hF hS hBF
    obtain ⟨rfl, ht, hbn⟩ := hcase
    rw [HKD.out] at hbn
    have hti : ¬ (0 : Int) < (tn : Int) := by omega
    cases hbk : K.known with
    | false =>
      have hres : faultT false (kd p) (.node n r k tn ks) = (n, r, .kind) := by
        rw [faultT_amiss (by rw [HM.out, HPD.out, HKD.out]; simp [wy, hbk]), HM.out, HPD.out, HKD.out]; simp [wy, hbk]
      have HRES := Lib.hid hres
      clear hres HS0 HI HK HKK
      go_wp2_with fail
      refine bodyPost_ret (v := .tuple #[.agg #[.int .i64 n, .int .i64 r], .string (Wy.str .kind)]) (by simp [results, Try.results37, go_sem, Wy.str]) rfl ?_
      exact ⟨by rw [HRES.out]; rfl, HBF.out⟩
    | true =>
      cases hba : P.allows K with
      | false =>
        have hres : faultT false (kd p) (.node n r k tn ks) = (n, r, .place) := by
          rw [faultT_amiss (by rw [HM.out, HPD.out, HKD.out]; simp [wy, hbk, hba]), HM.out, HPD.out, HKD.out]; simp [wy, hbk, hba]
        have HRES := Lib.hid hres
        clear hres HS0 HI HK HKK
        go_wp2_with fail
        refine bodyPost_ret (v := .tuple #[.agg #[.int .i64 n, .int .i64 r], .string (Wy.str .place)]) (by simp [results, Try.results37, go_sem, Wy.str]) rfl ?_
        exact ⟨by rw [HRES.out]; rfl, HBF.out⟩
      | true =>
        have HY : Hid (wy false (kd p) (kd k) tn m = .fine) := Lib.hid (by rw [HPD.out, HKD.out]; simp [wy, hbk, hba, hbn, ht])
        go_wp2_with fail
        go_loopw [12] (fun i wr => ∃ (j : Nat), j ≤ m ∧ i = .int .i64 j ∧ FAt w #[.int .i64 n, .int .i64 r, .string k, .slice AA an ac, .slice TA tn tc, .slice A m c] (kd k) ks j wr) (fun i _ => m - (intOf i).toNat)
        case atStart => exact ⟨0, Nat.zero_le _, rfl, HS0.out⟩
        case round =>
          clear HS0
          obtain ⟨j, hj, rfl, hS⟩ := hrel
          have hji : (0 : Int) ≤ (j : Int) := by omega
          have c2 : wr.cell? ⟨w.heap.size, 2, none⟩ = some (.string k) := hS.node.cell (j := 2) rfl
          have c5 : wr.cell? ⟨w.heap.size, 5, none⟩ = some (.slice A m c) := hS.node.cell (j := 5) rfl
          have HS := Lib.hid hS
          by_cases hlt : j < m
          · obtain ⟨u, hu⟩ : ∃ u, ks[j]? = some u := ⟨ks[j]'(by rw [HM.out]; exact hlt), List.getElem?_eq_getElem _⟩
            have hne : ks ≠ [] := by intro h; rw [h] at hu; simp at hu
            obtain ⟨b, off, rfl, hb, hcs⟩ := HK.out.resolve_left hne
            have hndk := HKK.out j u hu
            obtain ⟨kn, kr, kk, kAA, kan, kac, kTA, ktn, ktc, kA, km, kc2, hsix⟩ := hndk.six
            have hbw : b < w.heap.size := by have := HBB.out; omega
            have cc : ∀ jj v, (kc j)[jj]? = some v → wr.cell? ⟨b, off + j * 6 + jj, none⟩ = some v := fun jj v hv => by
              rw [Nat.add_assoc]
              exact (HS.out.below.cell (p := ⟨b, _, none⟩) hbw).trans (hcs j (by rw [HM.out]; exact hlt) jj v hv)
            rw [hsix] at cc
            have k0 : wr.cell? ⟨b, off + j * 6, none⟩ = some (.int .i64 kn) := cc 0 _ rfl
            have k1 : wr.cell? ⟨b, off + j * 6 + 1, none⟩ = some (.int .i64 kr) := cc 1 _ rfl
            have k2 : wr.cell? ⟨b, off + j * 6 + 2, none⟩ = some (.string kk) := cc 2 _ rfl
            have k3 : wr.cell? ⟨b, off + j * 6 + 3, none⟩ = some (.slice kAA kan kac) := cc 3 _ rfl
            have k4 : wr.cell? ⟨b, off + j * 6 + 4, none⟩ = some (.slice kTA ktn ktc) := cc 4 _ rfl
            have k5 : wr.cell? ⟨b, off + j * 6 + 5, none⟩ = some (.slice kA km kc2) := cc 5 _ rfl
            have HCALL := Lib.hid (HI.out j u hu)
            rw [hsix] at HCALL hndk
            have HNDK := Lib.hid hndk
            have HU := Lib.hid hu
            obtain ⟨xn, xr, xy, hx⟩ : ∃ xn xr xy, faultT false (kd k) u = (xn, xr, xy) := ⟨_, _, _, rfl⟩
            rw [hx] at HCALL
            simp only [fltV] at HCALL
            have HXF := Lib.hid hx
            have hjm : (j : Int) < (m : Int) := by omega
            have hwl : w.heap.size < wr.heap.size := HS.out.node.lt
            have hn1 : ¬ w.heap.size = wr.heap.size := by omega
            have hn2 : ¬ b = wr.heap.size := by omega
            have hn3 : b < wr.heap.size := by omega
            have hw1 : Below w.heap.size w wr.drew := HS.out.below.trans (Below.refl _ _).drew
            have hw2 : Below w.heap.size w (wr.drew.alloc (.cells #[.int .i64 0, .int .i64 0] 26)) := hw1.alloc hw1.size _
            have N1 := Lib.hid (HNDK.out.keep (B' := B) (w' := wr.drew) (Nat.le_refl _) fun q hq => hw1.cell (Nat.lt_of_lt_of_le hq HBB.out))
            have N2 := Lib.hid (HNDK.out.keep (B' := B) (w' := wr.drew.alloc (.cells #[.int .i64 0, .int .i64 0] 26)) (Nat.le_refl _) fun q hq => hw2.cell (Nat.lt_of_lt_of_le hq HBB.out))
            have S1 : Hid (B ≤ wr.drew.heap.size) := Lib.hid (Nat.le_trans HBB.out hw1.size)
            have S2 : Hid (B ≤ (wr.drew.alloc (.cells #[.int .i64 0, .int .i64 0] 26)).heap.size) := Lib.hid (Nat.le_trans HBB.out hw2.size)
            have HW1 := Lib.hid hw1
            have HW2 := Lib.hid hw2
            clear hw1 hw2
            clear cc hcs hndk hu hne hsix HKK HK HI hx hS
            go_wp2_with fail
            go_region_with (go_at_call 37; first
              | (refine (HCALL.out _ N1.out S1.out).mono ?_; rintro e w4 ⟨rfl, hB4⟩; have HB4 := Lib.hid hB4; clear hB4)
              | (refine (HCALL.out _ N2.out S2.out).mono ?_; rintro e w4 ⟨rfl, hB4⟩; have hM := (BoxN.made wr.drew #[.int .i64 0, .int .i64 0] 26).below hB4 (by simp); have y0 : w4.cell? ⟨wr.heap.size, 0, none⟩ = some (.int .i64 0) := hM.cell (j := 0) rfl; have y1 : w4.cell? ⟨wr.heap.size, 1, none⟩ = some (.int .i64 0) := hM.cell (j := 1) rfl; have y2 : w4.frozen? ⟨wr.heap.size, 0, none⟩ = false := hM.frozen; have y3 : w4.frozen? ⟨wr.heap.size, 1, none⟩ = false := hM.frozen; have HM4 := Lib.hid hM; have HB4 := Lib.hid hB4; clear hB4 hM))
            all_goals
              first
              | (have hM := HM4.out
                 have hb4 := HB4.out
                 have hB5 : Below w.heap.size w w4 := HW2.out.trans (hb4.mono HW2.out.size)
                 have hwl1 : w.heap.size + 1 < wr.heap.size := HS.out.res.lt
                 have hnd4 := (HS.out.node.alloc (w := wr.drew) (.cells #[.int .i64 0, .int .i64 0] 26)).below hb4 (by simp; omega)
                 have hrs4 := (HS.out.res.alloc (w := wr.drew) (.cells #[.int .i64 0, .int .i64 0] 26)).below hb4 (by simp; omega)
                 have hS5 : FAt w #[.int .i64 n, .int .i64 r, .string k, .slice AA an ac, .slice TA tn tc, .slice (some ⟨b, off, none⟩) m c] (kd k) ks j ((w4.setCell ⟨wr.heap.size, 0, none⟩ (.int .i64 xn)).setCell ⟨wr.heap.size, 1, none⟩ (.int .i64 xr)) :=
                   ⟨(hB5.setCell (p := ⟨wr.heap.size, 0, none⟩) (Nat.le_of_lt hwl) _).setCell (p := ⟨wr.heap.size, 1, none⟩) (Nat.le_of_lt hwl) _, (hnd4.far (p := ⟨wr.heap.size, 0, none⟩) (Nat.ne_of_lt hwl) _).far (p := ⟨wr.heap.size, 1, none⟩) (Nat.ne_of_lt hwl) _, (hrs4.far (p := ⟨wr.heap.size, 0, none⟩) (Nat.ne_of_lt hwl1) _).far (p := ⟨wr.heap.size, 1, none⟩) (Nat.ne_of_lt hwl1) _, HS.out.clean⟩
                 have hP5 : BoxN ((w4.setCell ⟨wr.heap.size, 0, none⟩ (.int .i64 xn)).setCell ⟨wr.heap.size, 1, none⟩ (.int .i64 xr)) wr.heap.size #[.int .i64 xn, .int .i64 xr] 26 := hM.set2 (.int .i64 xn) (.int .i64 xr)
                 have hPl : w.heap.size + 1 < wr.heap.size := hwl1
                 have HS5 := Lib.hid hS5
                 have HP5 := Lib.hid hP5
                 have HPL := Lib.hid hPl
                 clear y0 y1 y2 y3 hM hb4 hB5 hwl1 hnd4 hrs4 hS5 hP5 hPl HM4 HB4 HW1 HW2 N1 N2 S1 S2 HS HCALL hn1 hn2 hn3 hwl k0 k1 k2 k3 k4 k5 c2 c5
                 generalize (w4.setCell ⟨wr.heap.size, 0, none⟩ (.int .i64 xn)).setCell ⟨wr.heap.size, 1, none⟩ (.int .i64 xr) = wz at *
                 generalize wr.heap.size = Pb at *)
              | (have hb4 := HB4.out
                 have hB5 : Below w.heap.size w w4 := HW1.out.trans (hb4.mono HW1.out.size)
                 have hnd4 := HS.out.node.below (w := wr.drew) hb4 HS.out.node.lt
                 have hrs4 := HS.out.res.below (w := wr.drew) hb4 HS.out.res.lt
                 have hS5 : FAt w #[.int .i64 n, .int .i64 r, .string k, .slice AA an ac, .slice TA tn tc, .slice (some ⟨b, off, none⟩) m c] (kd k) ks j (w4.alloc (.cells #[.int .i64 xn, .int .i64 xr] 26)) := ⟨hB5.alloc hB5.size _, hnd4.alloc _, hrs4.alloc _, HS.out.clean⟩
                 have hP5 := BoxN.made w4 #[.int .i64 xn, .int .i64 xr] 26
                 have hPl : w.heap.size + 1 < w4.heap.size := hrs4.lt
                 have HS5 := Lib.hid hS5
                 have HP5 := Lib.hid hP5
                 have HPL := Lib.hid hPl
                 clear hb4 hB5 hnd4 hrs4 hS5 hP5 hPl HB4 HW1 HW2 N1 N2 S1 S2 HS HCALL hn1 hn2 hn3 hwl k0 k1 k2 k3 k4 k5 c2 c5
                 generalize w4.alloc (.cells #[.int .i64 xn, .int .i64 xr] 26) = wz at *
                 generalize w4.heap.size = Pb at *)
              have f0' : wz.frozen? ⟨w.heap.size + 1, 0, none⟩ = false := HS5.out.res.frozen
              have f1' : wz.frozen? ⟨w.heap.size + 1, 1, none⟩ = false := HS5.out.res.frozen
              have r0' : wz.cell? ⟨w.heap.size + 1, 0, none⟩ = some (.int .i64 0) := HS5.out.res.cell (j := 0) rfl
              have r1' : wz.cell? ⟨w.heap.size + 1, 1, none⟩ = some (.int .i64 0) := HS5.out.res.cell (j := 1) rfl
              have p0 : wz.cell? ⟨Pb, 0, none⟩ = some (.int .i64 xn) := HP5.out.cell (j := 0) rfl
              have p1 : wz.cell? ⟨Pb, 1, none⟩ = some (.int .i64 xr) := HP5.out.cell (j := 1) rfl
              cases hyf : decide (xy = Wy.fine) with
              | false =>
                have hyn : xy ≠ .fine := by simpa using hyf
                have hs : (xy.str.toList == []) = false := by rw [Wy.str_fine, hyf]
                have hsn := bne_f hs
                have hres : faultT false (kd p) (.node n r k tn ks) = (xn, xr, xy) := by rw [fault_at (by rw [HM.out]; exact HY.out) HS5.out.clean HU.out (by rw [HXF.out]; exact hyn), HXF.out]
                have HRES := Lib.hid hres
                have hR5 := HS5.out.res.set2 (.int .i64 xn) (.int .i64 xr)
                have r0 := hR5.cell (j := 0) rfl
                have r1 := hR5.cell (j := 1) rfl
                have HBF := Lib.hid ((HS5.out.below.setCell (p := ⟨w.heap.size + 1, 0, none⟩) (by simp) (.int .i64 xn)).setCell (p := ⟨w.heap.size + 1, 1, none⟩) (by simp) (.int .i64 xr))
                clear hyn hyf hres hR5
                go_wp2_with fail
                refine bodyPost_ret (v := .tuple #[.agg #[.int .i64 xn, .int .i64 xr], .string xy.str]) (by simp [results, Try.results37, go_sem, r0, r1]) rfl ?_
                exact ⟨by rw [HRES.out]; rfl, HBF.out⟩
              | true =>
                obtain rfl : xy = .fine := by simpa using hyf
                clear hyf
                have hs : (Wy.fine.str.toList == []) = true := by rw [Wy.str_fine]; rfl
                have hsn := bne_t hs
                have HCL := Lib.hid (HS5.out.clean.succ HU.out (by rw [HXF.out]))
                go_wp2_with fail
                go_roundw
                case rel => exact ⟨j + 1, by omega, by go_num, HS5.out.below, HS5.out.node, HS5.out.res, HCL.out⟩
                case measure => simp [intOf]; omega
          · obtain rfl : j = m := by omega
            have hres : faultT false (kd p) (.node n r k tn ks) = (0, 0, .fine) := fault_none (by rw [HM.out]; exact HY.out) (by rw [HM.out]; exact HS.out.clean)
            have HRES := Lib.hid hres
            have hR5 := HS.out.res.set2 (.int .i64 0) (.int .i64 0)
            have q0 : wr.cell? ⟨w.heap.size + 1, 0, none⟩ = some (.int .i64 0) := HS.out.res.cell (j := 0) rfl
            have q1 : wr.cell? ⟨w.heap.size + 1, 1, none⟩ = some (.int .i64 0) := HS.out.res.cell (j := 1) rfl
            have f0 : wr.frozen? ⟨w.heap.size + 1, 0, none⟩ = false := HS.out.res.frozen
            have f1 : wr.frozen? ⟨w.heap.size + 1, 1, none⟩ = false := HS.out.res.frozen
            have r0 := hR5.cell (j := 0) rfl
            have r1 := hR5.cell (j := 1) rfl
            have HBF : Hid (Below w.heap.size w ((wr.setCell ⟨w.heap.size + 1, 0, none⟩ (.int .i64 0)).setCell ⟨w.heap.size + 1, 1, none⟩ (.int .i64 0))) := Lib.hid ((HS.out.below.setCell (p := ⟨w.heap.size + 1, 0, none⟩) (by simp) _).setCell (p := ⟨w.heap.size + 1, 1, none⟩) (by simp) _)
            clear hres hR5 hS
            go_wp2_with fail
            refine bodyPost_ret (v := .tuple #[.agg #[.int .i64 0, .int .i64 0], .string ⟨#[]⟩]) (by simp [results, Try.results37, go_sem, r0, r1]) rfl ?_
            exact ⟨by rw [HRES.out]; rfl, HBF.out⟩
end Go.Proofs.Ytcdhndhgainadaa
