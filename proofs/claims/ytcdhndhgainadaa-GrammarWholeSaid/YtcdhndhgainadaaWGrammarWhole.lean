/-
  THE WALK OF GrammarWhole.
-/
import Derived.Test.YtcdhndhgainadaaCountF
import Derived.Test.YtcdhndhgainadaaWholeLaw
import Derived.Test.YtcdhndhgainadaaOpenD
namespace Go.Proofs.Ytcdhndhgainadaa.grammarWhole
open Go Go.RowKit
set_option linter.unusedVariables false

set_option maxRecDepth 100000 in
set_option maxHeartbeats 4000000 in
theorem walk (W : World) (v : List Value) (t : Tree) (hNd : Nd W W.heap.size v t) : Calls Try.prog 5 #[.agg v.toArray] W fun e w' => e = .returned (.bool true) ∧ Below W.heap.size W w' := by
  cases hNd with
  | mk n r k AA an ac A c TA tn tc kc ks hk hkids hcap hmax htn =>
  obtain ⟨T, hT⟩ : ∃ T, Tree.node n r k tn ks = T := ⟨_, rfl⟩
  obtain ⟨m, hm⟩ : ∃ m, ks.length = m := ⟨_, rfl⟩
  have hnd : Nd W W.heap.size [.int .i64 n, .int .i64 r, .string k, .slice AA an ac, .slice TA tn tc, .slice A m c] T := by
    rw [← hT, ← hm]; exact .mk n r k AA an ac A c TA tn tc kc ks hk hkids hcap hmax htn
  have hF0 : Below W.heap.size W (W.alloc (.cells #[.int .i64 n, .int .i64 r, .string k, .slice AA an ac, .slice TA tn tc, .slice A m c] 31)) := (Below.refl _ W).alloc (Nat.le_refl _) _
  have HF0 := Lib.hid hF0
  have HX0 := Lib.hid (BoxN.made W #[.int .i64 n, .int .i64 r, .string k, .slice AA an ac, .slice TA tn tc, .slice A m c] 31)
  have HC := Lib.hid (count_any (tsz T + 1) T (Nat.lt_succ_self _) _ 300 (by omega) (by omega) _ _ (hnd.beneath hF0) hF0.size)
  obtain ⟨xn, xr, xy, hx⟩ : ∃ xn xr xy, faultT true .other T = (xn, xr, xy) := ⟨_, _, _, rfl⟩
  have hrt : rightT T = decide (xy = .fine) := by unfold rightT; rw [hx]
  obtain ⟨rt, hrt2⟩ : ∃ rt, decide (xy = Wy.fine) = rt := ⟨_, rfl⟩
  have hstr : (xy.str.toList == []) = rt := by rw [Wy.str_fine]; exact hrt2
  have hkid : rt = true → kd k = .doc ∧ ∀ (j : Nat) u, ks[j]? = some u → (faultT false .doc u).2.2 = .fine := fun h => right_kids (n := n) (r := r) (tn := tn) (by rw [hT, hrt, hrt2, h])
  have HG := Lib.hid (fun (w1 : World) (h : Below W.heap.size W w1) => gfault_any (hnd.beneath h) h.size)
  have HRI := Lib.hid (fun (w1 : World) (h : Below W.heap.size W w1) => gright_any (hnd.beneath h) h.size)
  simp only [hx, fltV] at HG
  simp only [hrt, hrt2] at HRI
  have HKID := Lib.hid hkid
  have HK := Lib.hid hk
  have HKK := Lib.hid hkids
  have HM := Lib.hid hm
  rw [hm] at hcap ⊢
  clear hk hkids hm hnd hF0 hx hT hrt hrt2 hkid
  go_enter Try.func5, Try.ntmps5
  go_wp2_with fail
  refine HC.out.mono ?_
  rintro e w1 ⟨cn, rfl, hc1, hc2, hB1⟩
  have H1 := Lib.hid (HF0.out.trans (hB1.mono HF0.out.size))
  have HX1 := Lib.hid (HX0.out.below hB1 HX0.out.lt)
  clear HC HF0 HX0 hB1
  by_cases hbig : 300 < cn
  · go_wp2_with fail
    refine (alive_any w1).mono ?_
    rintro e w2 ⟨rfl, hB2⟩
    have H2 := Lib.hid (H1.out.trans (hB2.mono H1.out.size))
    clear hB2
    go_wp2_with fail
    go_ret
    exact ⟨rfl, H2.out⟩
  · have n0 : w1.cell? ⟨W.heap.size, 0, none⟩ = some (.int .i64 n) := HX1.out.cell (j := 0) rfl
    have n1 : w1.cell? ⟨W.heap.size, 1, none⟩ = some (.int .i64 r) := HX1.out.cell (j := 1) rfl
    have n2 : w1.cell? ⟨W.heap.size, 2, none⟩ = some (.string k) := HX1.out.cell (j := 2) rfl
    have n3 : w1.cell? ⟨W.heap.size, 3, none⟩ = some (.slice AA an ac) := HX1.out.cell (j := 3) rfl
    have n4 : w1.cell? ⟨W.heap.size, 4, none⟩ = some (.slice TA tn tc) := HX1.out.cell (j := 4) rfl
    have n5 : w1.cell? ⟨W.heap.size, 5, none⟩ = some (.slice A m c) := HX1.out.cell (j := 5) rfl
    go_wp2_with fail
    refine (HG.out w1 H1.out).mono ?_
    rintro e w2 ⟨rfl, hB2⟩
    have H2 := Lib.hid (H1.out.trans (hB2.mono H1.out.size))
    have HX2 := Lib.hid (HX1.out.below hB2 HX1.out.lt)
    clear hB2 H1 HX1 n0 n1 n2 n3 n4 n5
    have HX3 := Lib.hid (HX2.out.alloc (.cells #[.int .i64 xn, .int .i64 xr] 26))
    have H3 := Lib.hid (H2.out.alloc H2.out.size (.cells #[.int .i64 xn, .int .i64 xr] 26))
    have hlt2 : W.heap.size < w2.heap.size := HX2.out.lt
    have q0 : w2.cell? ⟨W.heap.size, 0, none⟩ = some (.int .i64 n) := HX2.out.cell (j := 0) rfl
    have q1 : w2.cell? ⟨W.heap.size, 1, none⟩ = some (.int .i64 r) := HX2.out.cell (j := 1) rfl
    have q2 : w2.cell? ⟨W.heap.size, 2, none⟩ = some (.string k) := HX2.out.cell (j := 2) rfl
    have q3 : w2.cell? ⟨W.heap.size, 3, none⟩ = some (.slice AA an ac) := HX2.out.cell (j := 3) rfl
    have q4 : w2.cell? ⟨W.heap.size, 4, none⟩ = some (.slice TA tn tc) := HX2.out.cell (j := 4) rfl
    have q5 : w2.cell? ⟨W.heap.size, 5, none⟩ = some (.slice A m c) := HX2.out.cell (j := 5) rfl
    have hne : ¬ W.heap.size = w2.heap.size := by omega
    go_wp2_with fail
    refine (HRI.out _ H3.out).mono ?_
    rintro e w3 ⟨rfl, hB3⟩
    have H4 := Lib.hid (H3.out.trans (hB3.mono H3.out.size))
    have HX4 := Lib.hid (HX3.out.below hB3 HX3.out.lt)
    clear hB3 HX2 HX3 H2 H3 q0 q1 q2 q3 q4 q5 hne hlt2
    have HS0 : Hid (NAt W #[.int .i64 n, .int .i64 r, .string k, .slice AA an ac, .slice TA tn tc, .slice A m c] w3) := Lib.hid ⟨H4.out, HX4.out⟩
    clear H4 HX4
    cases rt with
    | false =>
      go_wp2_with fail
      go_loopw [6] (fun i wr => i = .int .i64 0 ∧ NAt W #[.int .i64 n, .int .i64 r, .string k, .slice AA an ac, .slice TA tn tc, .slice A m c] wr) (fun i _ => 0)
      case atStart => exact ⟨rfl, HS0.out⟩
      case round =>
        clear HS0
        obtain ⟨rfl, hS⟩ := hrel
        have HS := Lib.hid hS
        clear hS
        go_wp2_with fail
        refine (alive_any _).mono ?_
        rintro e w5 ⟨rfl, hB5⟩
        have H5 := Lib.hid (HS.out.below.trans (hB5.mono HS.out.below.size))
        clear hB5
        go_wp2_with fail
        go_ret
        exact ⟨rfl, H5.out⟩
    | true =>
      obtain ⟨hkd, hall⟩ := HKID.out rfl
      have HKD := Lib.hid hkd
      have HALL := Lib.hid hall
      clear hkd hall HKID
      go_wp2_with fail
      go_loopw [6] (fun i wr => ∃ (j : Nat), j ≤ m ∧ i = .int .i64 j ∧ NAt W #[.int .i64 n, .int .i64 r, .string k, .slice AA an ac, .slice TA tn tc, .slice A m c] wr) (fun i _ => m - (intOf i).toNat)
      case atStart => exact ⟨0, Nat.zero_le _, rfl, HS0.out⟩
      case round =>
        clear HS0
        obtain ⟨j, hj, rfl, hS⟩ := hrel
        have hji : (0 : Int) ≤ (j : Int) := by omega
        have c2 : wr.cell? ⟨W.heap.size, 2, none⟩ = some (.string k) := hS.node.cell (j := 2) rfl
        have c5 : wr.cell? ⟨W.heap.size, 5, none⟩ = some (.slice A m c) := hS.node.cell (j := 5) rfl
        have HS := Lib.hid hS
        by_cases hlt : j < m
        · obtain ⟨u, hu⟩ : ∃ u, ks[j]? = some u := ⟨ks[j]'(by rw [HM.out]; exact hlt), List.getElem?_eq_getElem _⟩
          have hne : ks ≠ [] := by intro h; rw [h] at hu; simp at hu
          obtain ⟨b, off, rfl, hb, hcs⟩ := HK.out.resolve_left hne
          have hndk := HKK.out j u hu
          have hfu := HALL.out j u hu
          obtain ⟨kn, kr, kx, ktn, kks⟩ := u
          obtain ⟨kAA, kan, kac, kTA, ktc, kA, km, kc2, hsix⟩ := hndk.six'
          have cc : ∀ jj v, (kc j)[jj]? = some v → wr.cell? ⟨b, off + j * 6 + jj, none⟩ = some v := fun jj v hv => by
            rw [Nat.add_assoc]
            exact (HS.out.below.cell (p := ⟨b, _, none⟩) hb).trans (hcs j (by rw [HM.out]; exact hlt) jj v hv)
          rw [hsix] at cc
          have k0 : wr.cell? ⟨b, off + j * 6, none⟩ = some (.int .i64 kn) := cc 0 _ rfl
          have k1 : wr.cell? ⟨b, off + j * 6 + 1, none⟩ = some (.int .i64 kr) := cc 1 _ rfl
          have k2 : wr.cell? ⟨b, off + j * 6 + 2, none⟩ = some (.string kx) := cc 2 _ rfl
          have k3 : wr.cell? ⟨b, off + j * 6 + 3, none⟩ = some (.slice kAA kan kac) := cc 3 _ rfl
          have k4 : wr.cell? ⟨b, off + j * 6 + 4, none⟩ = some (.slice kTA ktn ktc) := cc 4 _ rfl
          have k5 : wr.cell? ⟨b, off + j * 6 + 5, none⟩ = some (.slice kA km kc2) := cc 5 _ rfl
          have hwl : W.heap.size < wr.heap.size := hS.node.lt
          have hn1 : ¬ W.heap.size = wr.heap.size := by omega
          have hn2 : ¬ b = wr.heap.size := by omega
          rw [hsix] at hndk
          have HAL := Lib.hid (allows_any k kx)
          rw [HKD.out, allows_of_fine hfu] at HAL
          have HNDK := Lib.hid hndk
          have HRT : Hid (rightT (.node 0 0 sDoc 0 [.node kn kr kx ktn kks]) = true) := Lib.hid (by rw [right_alone, hfu]; rfl)
          have hji2 : (j : Int) < (m : Int) := by omega
          clear cc hcs hndk hu hne hsix HKK HK hS hfu
          go_wp2_with fail
          refine (HAL.out _).mono ?_
          rintro e w5 ⟨rfl, hB5⟩
          rw [World.size_alloc] at hB5
          have hKB := (BoxN.made wr #[.int .i64 kn, .int .i64 kr, .string kx, .slice kAA kan kac, .slice kTA ktn ktc, .slice kA km kc2] 31).below hB5 (by omega)
          have hS5 : NAt W #[.int .i64 n, .int .i64 r, .string k, .slice AA an ac, .slice TA tn tc, .slice (some ⟨b, off, none⟩) m c] w5 :=
            ⟨(HS.out.below.alloc HS.out.below.size _).trans (hB5.mono (by omega)), (HS.out.node.alloc _).below hB5 (by omega)⟩
          have HS5 := Lib.hid hS5
          have z0 : w5.cell? ⟨wr.heap.size, 0, none⟩ = some (.int .i64 kn) := hKB.cell (j := 0) rfl
          have z1 : w5.cell? ⟨wr.heap.size, 1, none⟩ = some (.int .i64 kr) := hKB.cell (j := 1) rfl
          have z2 : w5.cell? ⟨wr.heap.size, 2, none⟩ = some (.string kx) := hKB.cell (j := 2) rfl
          have z3 : w5.cell? ⟨wr.heap.size, 3, none⟩ = some (.slice kAA kan kac) := hKB.cell (j := 3) rfl
          have z4 : w5.cell? ⟨wr.heap.size, 4, none⟩ = some (.slice kTA ktn ktc) := hKB.cell (j := 4) rfl
          have z5 : w5.cell? ⟨wr.heap.size, 5, none⟩ = some (.slice kA km kc2) := hKB.cell (j := 5) rfl
          have hA5 := hS5.below.alloc hS5.below.size (.cells #[.int .i64 kn, .int .i64 kr, .string kx, .slice kAA kan kac, .slice kTA ktn ktc, .slice kA km kc2] 31)
          have hbx := BoxN.made w5 #[.int .i64 kn, .int .i64 kr, .string kx, .slice kAA kan kac, .slice kTA ktn ktc, .slice kA km kc2] 31
          have HRR := Lib.hid (gright_any (Nd.of_list 0 0 sDoc none 0 0 none 0 0 w5.heap.size 1 _ _ ((HNDK.out.beneath hA5).keep (B' := w5.heap.size + 1) (by have := hS5.below.size; omega) fun _ _ => rfl) (Nat.lt_succ_self _) (fun j u hu => hbx.cell (by simpa using hu)) (by omega) (by omega) (by omega)) (by simp))
          rw [HRT.out] at HRR
          have HA5 := Lib.hid hA5
          have HS6 := Lib.hid (hS5.node.alloc (.cells #[.int .i64 kn, .int .i64 kr, .string kx, .slice kAA kan kac, .slice kTA ktn ktc, .slice kA km kc2] 31))
          clear hB5 hKB hS5 hA5 hbx k0 k1 k2 k3 k4 k5 c2 c5 HS HS5 hwl hn1 hn2 HNDK HRT HAL
          go_wp2_with fail
          refine HRR.out.mono ?_
          rintro e w6 ⟨rfl, hB6⟩
          have HS7 : Hid (NAt W #[.int .i64 n, .int .i64 r, .string k, .slice AA an ac, .slice TA tn tc, .slice (some ⟨b, off, none⟩) m c] w6) := Lib.hid ⟨HA5.out.trans (hB6.mono HA5.out.size), HS6.out.below hB6 HS6.out.lt⟩
          clear hB6 HRR HA5 HS6 z0 z1 z2 z3 z4 z5
          go_wp2_with fail
          go_roundw
          case rel => exact ⟨j + 1, by omega, by go_num, HS7.out⟩
          case measure => simp [intOf]; omega
        · obtain rfl : j = m := by omega
          clear hS
          go_wp2_with fail
          refine (alive_any _).mono ?_
          rintro e w5 ⟨rfl, hB5⟩
          have H5 := Lib.hid (HS.out.below.trans (hB5.mono HS.out.below.size))
          clear hB5
          go_wp2_with fail
          go_ret
          exact ⟨rfl, H5.out⟩
end Go.Proofs.Ytcdhndhgainadaa.grammarWhole
