/-
  The contract of grammar's first: a tree's first fault under a parent.
-/
import Derived.Test.YtcdhndhgainadaaWhyF
namespace Go.Proofs.Ytcdhndhgainadaa
open Go Go.RowKit
set_option linter.unusedVariables false

/-- a fault, as the functions return it -/
def fltV (x : Int × Int × Wy) : Value := .tuple #[.agg #[.int .i64 x.1, .int .i64 x.2.1], .string x.2.2.str]
theorem Wy.str_fine {y : Wy} : (y.str.toList == []) = decide (y = .fine) := by
  rw [ByteArray.toList_eq]
  cases y <;> rfl
theorem known_word {k : ByteArray} (h : (kd k).known = true) : (k.toList == []) = false := by
  rcases kd_cases k with rfl | rfl | rfl | rfl | rfl | rfl | rfl | rfl | rfl | h
  case inr.inr.inr.inr.inr.inr.inr.inr.inr => rw [kd_other h] at *; cases (by assumption : Kd.known .other = true)
  all_goals (rw [ByteArray.toList_eq]; rfl)
theorem wy_known {root : Bool} {p k : Kd} {tn m : Nat} (h : wy root p k tn m = .fine) : k.known = true := by
  unfold wy at h
  cases hk : k.known with
  | true => rfl
  | false => 
    rw [hk] at h
    split at h
    · cases h
    · simp at h

/-- how the fault of a tree comes out of the first of its kids that has one -/
theorem fault_at {root : Bool} {p : Kd} {n r : Int} {k : ByteArray} {tn : Nat} {ks : List Tree} {i : Nat} {t : Tree} (h : wy root p (kd k) tn ks.length = .fine) (hc : CleanTo (kd k) ks i) (ht : ks[i]? = some t) (hf : (faultT false (kd k) t).2.2 ≠ .fine) :
    faultT root p (.node n r k tn ks) = faultT false (kd k) t := by rw [faultT_fine h, faultL_hit hc ht hf]
theorem fault_none {root : Bool} {p : Kd} {n r : Int} {k : ByteArray} {tn : Nat} {ks : List Tree} (h : wy root p (kd k) tn ks.length = .fine) (hc : CleanTo (kd k) ks ks.length) :
    faultT root p (.node n r k tn ks) = (0, 0, .fine) := by rw [faultT_fine h, faultL_clean hc]

noncomputable def tsz (t : Tree) : Nat := SizeOf.sizeOf t
theorem tree_size {n r : Int} {k : ByteArray} {tn : Nat} {ks : List Tree} {i : Nat} {t : Tree} (h : ks[i]? = some t) : tsz t < tsz (Tree.node n r k tn ks) := by
  have h1 : t ∈ ks := List.mem_of_getElem? h
  have h2 := List.sizeOf_lt_of_mem h1
  simp only [tsz, Tree.node.sizeOf_spec]
  omega
/-- six cells -/
theorem Nd.six {w : World} {B : Nat} {v : List Value} {t : Tree} (h : Nd w B v t) : ∃ (n r : Int) (k : ByteArray) (AA : Option Addr) (an ac : Nat) (TA : Option Addr) (tn tc : Nat) (A : Option Addr) (m c : Nat),
    v = [.int .i64 n, .int .i64 r, .string k, .slice AA an ac, .slice TA tn tc, .slice A m c] := by
  cases h
  exact ⟨_, _, _, _, _, _, _, _, _, _, _, _, rfl⟩

/-- what holds at the head of a round: the node's cells (at w's end), the result's, no fault so far -/
structure FAt (w : World) (vs : Array Value) (p : Kd) (ks : List Tree) (j : Nat) (wr : World) : Prop where
  below : Below w.heap.size w wr
  node : BoxN wr w.heap.size vs 31
  res : BoxN wr (w.heap.size + 1) #[.int .i64 0, .int .i64 0] 26
  clean : CleanTo p ks j

set_option maxRecDepth 100000 in
set_option maxHeartbeats 4000000 in
theorem first_any : ∀ (N : Nat) (t : Tree), tsz t < N → ∀ (v : List Value) (p : ByteArray) (root : Bool) (hp : (p.toList == []) = root) (B : Nat) (w : World), Nd w B v t → B ≤ w.heap.size →
    Calls Try.prog 36 #[.agg v.toArray, .string p] w fun e w' => e = .returned (fltV (faultT root (kd p) t)) ∧ Below w.heap.size w w' := by
  intro N
  induction N with
  | zero => intro t h; omega
  | succ N ih =>
    intro t hN v p root hp B w hNd hB
    cases hNd with
    | mk n r k AA an ac A c TA tn tc kc ks hk hkids hcap hmax htn =>
    obtain ⟨m, hm⟩ : ∃ m, ks.length = m := ⟨_, rfl⟩
    have HW := Lib.hid (fun w1 => why_any n r k p (.slice AA an ac) TA A tn tc m c root hp w1)
    have HI := Lib.hid (fun (i : Nat) (u : Tree) (hu : ks[i]? = some u) (hK : (k.toList == []) = false) (w1 : World) (h1 : Nd w1 B (kc i) u) (hB1 : B ≤ w1.heap.size) => ih u (by have := tree_size (n := n) (r := r) (k := k) (tn := tn) hu; omega) (kc i) k false hK B w1 h1 hB1)
    have HK := Lib.hid hk
    have HKK := Lib.hid hkids
    have HM := Lib.hid hm
    rw [hm] at hcap ⊢
    clear ih hk hkids hp hN hm
    obtain ⟨y, hy⟩ : ∃ y, wy root (kd p) (kd k) tn m = y := ⟨_, rfl⟩
    rw [hy] at HW
    have HY := Lib.hid hy
    have HBB := Lib.hid hB
    clear hy hB
    go_enter Try.func36, Try.ntmps36
    go_wp2_with fail
    refine (HW.out _).mono ?_
    rintro e w1 ⟨rfl, hB1⟩
    have hF : Below w.heap.size w w1 := (((Below.refl _ w).alloc (Nat.le_refl _) _).alloc (by simp) _).trans (hB1.mono (by simp; omega))
    have hX := ((BoxN.made w #[.int .i64 n, .int .i64 r, .string k, .slice AA an ac, .slice TA tn tc, .slice A m c] 31).alloc (.cells #[.int .i64 0, .int .i64 0] 26)).below hB1 (by simp; omega)
    have hR := (BoxN.made (w.alloc (.cells #[.int .i64 n, .int .i64 r, .string k, .slice AA an ac, .slice TA tn tc, .slice A m c] 31)) #[.int .i64 0, .int .i64 0] 26).below hB1 (by simp)
    rw [World.size_alloc] at hR
    have c0 : w1.cell? ⟨w.heap.size, 0, none⟩ = some (.int .i64 n) := hX.cell (j := 0) rfl
    have c1 : w1.cell? ⟨w.heap.size, 1, none⟩ = some (.int .i64 r) := hX.cell (j := 1) rfl
    have c5 : w1.cell? ⟨w.heap.size, 5, none⟩ = some (.slice A m c) := hX.cell (j := 5) rfl
    have f0 : w1.frozen? ⟨w.heap.size + 1, 0, none⟩ = false := hR.frozen
    have f1 : w1.frozen? ⟨w.heap.size + 1, 1, none⟩ = false := hR.frozen
    have r0 : w1.cell? ⟨w.heap.size + 1, 0, none⟩ = some (.int .i64 0) := hR.cell (j := 0) rfl
    have r1 : w1.cell? ⟨w.heap.size + 1, 1, none⟩ = some (.int .i64 0) := hR.cell (j := 1) rfl
    have HX := Lib.hid hX
    have HR := Lib.hid hR
    have HF := Lib.hid hF
    clear hX hR hF hB1
    cases hyf : decide (y = .fine) with
    | false =>
      have hyn : y ≠ .fine := by simpa using hyf
      have hs : (y.str.toList == []) = false := by rw [Wy.str_fine, hyf]
      have hsn := bne_f hs
      have hres : faultT root (kd p) (.node n r k tn ks) = (n, r, y) := by rw [faultT_amiss (by rw [HM.out, HY.out]; exact hyn), HM.out, HY.out]
      have HRES := Lib.hid hres
      have HBF : Hid (Below w.heap.size w ((w1.setCell ⟨w.heap.size + 1, 0, none⟩ (.int .i64 n)).setCell ⟨w.heap.size + 1, 1, none⟩ (.int .i64 r))) := Lib.hid ((HF.out.setCell (p := ⟨w.heap.size + 1, 0, none⟩) (by simp) _).setCell (p := ⟨w.heap.size + 1, 1, none⟩) (by simp) _)
      clear hyn hyf hres
      go_wp2_with fail
      refine bodyPost_ret (v := .tuple #[.agg #[.int .i64 n, .int .i64 r], .string y.str]) (by simp [results, Try.results36, go_sem, r0, r1]) rfl ?_
      exact ⟨by rw [HRES.out]; rfl, HBF.out⟩
    | true =>
      obtain rfl : y = .fine := by simpa using hyf
      clear hyf
      have hs : (Wy.fine.str.toList == []) = true := by rw [Wy.str_fine]; rfl
      have hsn := bne_t hs
      have hkw : (k.toList == []) = false := known_word (wy_known HY.out)
      have HKW := Lib.hid hkw
      have hS : FAt w #[.int .i64 n, .int .i64 r, .string k, .slice AA an ac, .slice TA tn tc, .slice A m c] (kd k) ks 0 w1 := ⟨HF.out, HX.out, HR.out, CleanTo.zero _ _⟩
      have HS := Lib.hid hS
      clear hkw hS HX HR HF
      go_wp2_with fail
      go_loopw [22] (fun i wr => ∃ (j : Nat), j ≤ m ∧ i = .int .i64 j ∧ FAt w #[.int .i64 n, .int .i64 r, .string k, .slice AA an ac, .slice TA tn tc, .slice A m c] (kd k) ks j wr) (fun i _ => m - (intOf i).toNat)
      case atStart => exact ⟨0, Nat.zero_le _, rfl, HS.out⟩
      case round =>
        clear c0 c1 c5 f0 f1 r0 r1 HS
        obtain ⟨j, hj, rfl, hS⟩ := hrel
        have hji : (0 : Int) ≤ (j : Int) := by omega
        have c0 : wr.cell? ⟨w.heap.size, 0, none⟩ = some (.int .i64 n) := hS.node.cell (j := 0) rfl
        have c1 : wr.cell? ⟨w.heap.size, 1, none⟩ = some (.int .i64 r) := hS.node.cell (j := 1) rfl
        have c2 : wr.cell? ⟨w.heap.size, 2, none⟩ = some (.string k) := hS.node.cell (j := 2) rfl
        have c5 : wr.cell? ⟨w.heap.size, 5, none⟩ = some (.slice A m c) := hS.node.cell (j := 5) rfl
        have f0 : wr.frozen? ⟨w.heap.size + 1, 0, none⟩ = false := hS.res.frozen
        have f1 : wr.frozen? ⟨w.heap.size + 1, 1, none⟩ = false := hS.res.frozen
        have hwl : w.heap.size + 1 < wr.heap.size := hS.res.lt
        have hn1 : ¬ w.heap.size = wr.heap.size := by omega
        have hn2 : ¬ w.heap.size + 1 = wr.heap.size := by omega
        have hn3 : w.heap.size < wr.heap.size := by omega
        have HS := Lib.hid hS
        clear hS
        by_cases hlt : j < m
        · obtain ⟨u, hu⟩ : ∃ u, ks[j]? = some u := ⟨ks[j]'(by rw [HM.out]; exact hlt), List.getElem?_eq_getElem _⟩
          have hne : ks ≠ [] := by intro h; rw [h] at hu; simp at hu
          obtain ⟨b, off, rfl, hb, hcs⟩ := HK.out.resolve_left hne
          have hndk := HKK.out j u hu
          obtain ⟨kn, kr, kk, kAA, kan, kac, kTA, ktn, ktc, kA, km, kc2, hsix⟩ := hndk.six
          have hbw : b < w.heap.size := by have := HBB.out; omega
          have cc : ∀ jj v, (kc j)[jj]? = some v → wr.cell? ⟨b, off + j * 6 + jj, none⟩ = some v := fun jj v hv => by
            rw [Nat.add_assoc]
            exact (HS.out.below.cell (p := ⟨b, _, none⟩) hbw).trans (hcs j (by rw [HM.out]; exact hlt) jj v hv)
          rw [hsix] at cc
          have k0 : wr.cell? ⟨b, off + j * 6, none⟩ = some (.int .i64 kn) := cc 0 _ rfl
          have k1 : wr.cell? ⟨b, off + j * 6 + 1, none⟩ = some (.int .i64 kr) := cc 1 _ rfl
          have k2 : wr.cell? ⟨b, off + j * 6 + 2, none⟩ = some (.string kk) := cc 2 _ rfl
          have k3 : wr.cell? ⟨b, off + j * 6 + 3, none⟩ = some (.slice kAA kan kac) := cc 3 _ rfl
          have k4 : wr.cell? ⟨b, off + j * 6 + 4, none⟩ = some (.slice kTA ktn ktc) := cc 4 _ rfl
          have k5 : wr.cell? ⟨b, off + j * 6 + 5, none⟩ = some (.slice kA km kc2) := cc 5 _ rfl
          have HCALL := Lib.hid (HI.out j u hu HKW.out)
          rw [hsix] at HCALL hndk
          have HNDK := Lib.hid hndk
          have HU := Lib.hid hu
          obtain ⟨xn, xr, xy, hx⟩ : ∃ xn xr xy, faultT false (kd k) u = (xn, xr, xy) := ⟨_, _, _, rfl⟩
          rw [hx] at HCALL
          simp only [fltV] at HCALL
          have HXF := Lib.hid hx
          clear hx
          have hne2 : ¬ b = w.heap.size := by omega
          clear cc hcs hndk hu hne hsix HKK HK HI
          go_wp2_with fail
          refine (HCALL.out _ (HNDK.out.keep (Nat.le_refl _) fun q hq => (HS.out.below.alloc HS.out.below.size _).cell (Nat.lt_of_lt_of_le hq HBB.out)) (by have := HBB.out; simp; omega)).mono ?_
          rintro e w4 ⟨rfl, hB4⟩
          rw [World.size_alloc] at hB4
          clear HCALL HNDK
          have hS4 : FAt w #[.int .i64 n, .int .i64 r, .string k, .slice AA an ac, .slice TA tn tc, .slice (some ⟨b, off, none⟩) m c] (kd k) ks j w4 :=
            ⟨(HS.out.below.alloc HS.out.below.size _).trans (hB4.mono (by omega)), (HS.out.node.alloc _).below hB4 (by omega), (HS.out.res.alloc _).below hB4 (by omega), HS.out.clean⟩
          have HS4 := Lib.hid hS4
          have f0' : w4.frozen? ⟨w.heap.size + 1, 0, none⟩ = false := hS4.res.frozen
          have f1' : w4.frozen? ⟨w.heap.size + 1, 1, none⟩ = false := hS4.res.frozen
          have r0' : w4.cell? ⟨w.heap.size + 1, 0, none⟩ = some (.int .i64 0) := hS4.res.cell (j := 0) rfl
          have r1' : w4.cell? ⟨w.heap.size + 1, 1, none⟩ = some (.int .i64 0) := hS4.res.cell (j := 1) rfl
          have hwl4 : w.heap.size + 1 < w4.heap.size := hS4.res.lt
          have hm1 : ¬ w.heap.size = w4.heap.size := by omega
          have hm2 : ¬ w.heap.size + 1 = w4.heap.size := by omega
          clear c0 c1 c2 c5 k0 k1 k2 k3 k4 k5 f0 f1 hwl hn1 hn2 hn3 hB4 hS4 HS
          cases hyf : decide (xy = Wy.fine) with
          | false =>
            have hyn : xy ≠ .fine := by simpa using hyf
            have hs : (xy.str.toList == []) = false := by rw [Wy.str_fine, hyf]
            have hsn := bne_f hs
            have hres : faultT root (kd p) (.node n r k tn ks) = (xn, xr, xy) := by rw [fault_at (by rw [HM.out]; exact HY.out) HS4.out.clean HU.out (by rw [HXF.out]; exact hyn), HXF.out]
            have HRES := Lib.hid hres
            have hR5 := (HS4.out.res.set2 (.int .i64 xn) (.int .i64 xr)).alloc (.cells #[.int .i64 xn, .int .i64 xr] 26)
            have r0 := hR5.cell (j := 0) rfl
            have r1 := hR5.cell (j := 1) rfl
            have hBF : Below w.heap.size w ((w4.setCell ⟨w.heap.size + 1, 0, none⟩ (.int .i64 xn)).setCell ⟨w.heap.size + 1, 1, none⟩ (.int .i64 xr)) := (HS4.out.below.setCell (p := ⟨w.heap.size + 1, 0, none⟩) (by simp) _).setCell (p := ⟨w.heap.size + 1, 1, none⟩) (by simp) _
            have HBF := Lib.hid (hBF.alloc hBF.size (.cells #[.int .i64 xn, .int .i64 xr] 26))
            clear hyn hyf hres hR5 hBF
            go_wp2_with fail
            refine bodyPost_ret (v := .tuple #[.agg #[.int .i64 xn, .int .i64 xr], .string xy.str]) (by simp [results, Try.results36, go_sem, r0, r1]) rfl ?_
            exact ⟨by rw [HRES.out]; rfl, HBF.out⟩
          | true =>
            obtain rfl : xy = .fine := by simpa using hyf
            clear hyf
            have hS5 : FAt w #[.int .i64 n, .int .i64 r, .string k, .slice AA an ac, .slice TA tn tc, .slice (some ⟨b, off, none⟩) m c] (kd k) ks (j + 1) (w4.alloc (.cells #[.int .i64 xn, .int .i64 xr] 26)) :=
              ⟨HS4.out.below.alloc HS4.out.below.size _, HS4.out.node.alloc _, HS4.out.res.alloc _, HS4.out.clean.succ HU.out (by rw [HXF.out])⟩
            have HS5 := Lib.hid hS5
            clear hS5 HS4
            go_wp2_with fail
            go_roundw
            case rel => exact ⟨j + 1, by omega, by go_num, HS5.out⟩
            case measure => simp [intOf]; omega
        · obtain rfl : j = m := by omega
          have hres : faultT root (kd p) (.node n r k tn ks) = (0, 0, .fine) := fault_none (by rw [HM.out]; exact HY.out) (by rw [HM.out]; exact HS.out.clean)
          have HRES := Lib.hid hres
          have hR5 := HS.out.res.set2 (.int .i64 0) (.int .i64 0)
          have q0 : wr.cell? ⟨w.heap.size + 1, 0, none⟩ = some (.int .i64 0) := HS.out.res.cell (j := 0) rfl
          have q1 : wr.cell? ⟨w.heap.size + 1, 1, none⟩ = some (.int .i64 0) := HS.out.res.cell (j := 1) rfl
          have r0 := hR5.cell (j := 0) rfl
          have r1 := hR5.cell (j := 1) rfl
          have HBF : Hid (Below w.heap.size w ((wr.setCell ⟨w.heap.size + 1, 0, none⟩ (.int .i64 0)).setCell ⟨w.heap.size + 1, 1, none⟩ (.int .i64 0))) := Lib.hid ((HS.out.below.setCell (p := ⟨w.heap.size + 1, 0, none⟩) (by simp) _).setCell (p := ⟨w.heap.size + 1, 1, none⟩) (by simp) _)
          clear hres hR5
          go_wp2_with fail
          refine bodyPost_ret (v := .tuple #[.agg #[.int .i64 0, .int .i64 0], .string ⟨#[]⟩]) (by simp [results, Try.results36, go_sem, r0, r1]) rfl ?_
          exact ⟨by rw [HRES.out]; rfl, HBF.out⟩
end Go.Proofs.Ytcdhndhgainadaa
