/-
  THE WALK OF RepairApart.
-/
import Derived.Test.YtcdhndhgainadaaApartLaw
import Derived.Test.YtcdhndhgainadaaRightF
namespace Go.Proofs.Ytcdhndhgainadaa.repairApart
open Go Go.RowKit
set_option linter.unusedVariables false
set_option linter.unusedSimpArgs false

set_option maxRecDepth 100000 in
set_option maxHeartbeats 4000000 in
theorem walk (W : World) (v : List Value) (t : RT) (hv : NdR W W.heap.size v t) : Calls Try.prog 11 #[.agg v.toArray] W fun e w' => e = .returned (.bool true) ∧ Below W.heap.size W w' := by
  have hfoot : NdF W (fun b => b < W.heap.size) v t := hv.foot (Nat.le_refl _) fun _ h => h
  have HL := Lib.hid (large25_any (hv.beneath (w' := W.alloc (.cells v.toArray 31)) (blAl _) (by simp)))
  have HV := Lib.hid hv
  have HFT := Lib.hid hfoot
  obtain ⟨n, r, k, AA, an, ac, TA, tn, tc, A, m, c, at_, tx, ks, rfl, hP⟩ := hfoot.parts
  obtain ⟨rfl, hatt, htxt, hKF⟩ := hP
  have HAT := Lib.hid hatt
  have HX0 := Lib.hid (BoxN.made W #[.int .i64 n, .int .i64 r, .string k, .slice AA an ac, .slice TA tn tc, .slice A m c] 31)
  have HB0 := Lib.hid (blAl (w := W) (.cells #[.int .i64 n, .int .i64 r, .string k, .slice AA an ac, .slice TA tn tc, .slice A m c] 31))
  clear hv hfoot hatt htxt
  obtain ⟨big, hbig⟩ : ∃ b : Bool, decide (300 < rsize (.node n r k at_ tx ks)) = b := ⟨_, rfl⟩
  rw [hbig] at HL
  have HBIG := Lib.hid hbig
  clear hbig
  go_enter Try.func11, Try.ntmps11
  go_wp2_with fail
  refine HL.out.mono ?_
  rintro e w1 ⟨rfl, hB1⟩
  have hX1 := HX0.out.below hB1 HX0.out.lt
  have H1 := Lib.hid (HB0.out.trans (hB1.mono HB0.out.size))
  have HX1 := Lib.hid hX1
  cases big
  case true =>
    clear hX1 HL HB0 HX0 hB1
    go_wp2_with fail
    refine (alive26_any _).mono ?_
    rintro e w2 ⟨rfl, hB2⟩
    have H2 := Lib.hid (H1.out.trans (hB2.mono H1.out.size))
    clear hB2
    go_wp2_with fail
    go_ret
    exact ⟨rfl, H2.out⟩
  case false =>
    have hsz : rsize (.node n r k at_ tx ks) ≤ 300 := by have := of_decide_eq_false HBIG.out; omega
    have HSZ := Lib.hid hsz
    clear hsz
    have w1c0 : w1.cell? ⟨W.heap.size, 0, none⟩ = some (.int .i64 n) := hX1.cell (j := 0) rfl
    have w1c1 : w1.cell? ⟨W.heap.size, 1, none⟩ = some (.int .i64 r) := hX1.cell (j := 1) rfl
    have w1c2 : w1.cell? ⟨W.heap.size, 2, none⟩ = some (.string k) := hX1.cell (j := 2) rfl
    have w1c3 : w1.cell? ⟨W.heap.size, 3, none⟩ = some (.slice AA an ac) := hX1.cell (j := 3) rfl
    have w1c4 : w1.cell? ⟨W.heap.size, 4, none⟩ = some (.slice TA tn tc) := hX1.cell (j := 4) rfl
    have w1c5 : w1.cell? ⟨W.heap.size, 5, none⟩ = some (.slice A m c) := hX1.cell (j := 5) rfl
    have hM1 := BoxN.made w1 ((fun kv : Value => #[.int .i64 n, .int .i64 r, .string sDoc, .slice AA an ac, .slice none 0 0, kv]) (.slice none 0 0)) 31
    have hX1m := hX1.alloc (.cells ((fun kv : Value => #[.int .i64 n, .int .i64 r, .string sDoc, .slice AA an ac, .slice none 0 0, kv]) (.slice none 0 0)) 31)
    have h1m : Below W.heap.size W (w1.alloc (.cells ((fun kv : Value => #[.int .i64 n, .int .i64 r, .string sDoc, .slice AA an ac, .slice none 0 0, kv]) (.slice none 0 0)) 31)) := H1.out.alloc H1.out.size _
    have hgW : W.heap.size < w1.heap.size := hX1.lt
    have hsm : (w1.alloc (.cells ((fun kv : Value => #[.int .i64 n, .int .i64 r, .string sDoc, .slice AA an ac, .slice none 0 0, kv]) (.slice none 0 0)) 31)).heap.size = w1.heap.size + 1 := World.size_alloc _ _
    simp only at hM1 hX1m h1m hsm
    clear hB1 HL HB0 HX0 hX1 H1 HX1
    go_wp2_with fail
    generalize hwm : w1.alloc (.cells #[.int .i64 n, .int .i64 r, .string sDoc, .slice AA an ac, .slice none 0 0, .slice none 0 0] 31) = wm at *
    clear hwm
    obtain ⟨gm, hgm⟩ : ∃ gm, w1.heap.size = gm := ⟨_, rfl⟩
    rw [hgm] at hM1 hgW hsm ⊢
    obtain ⟨n0, hn0⟩ : ∃ n0, wm.heap.size = n0 := ⟨_, rfl⟩
    have hgn : gm < n0 := by omega
    have HGW := Lib.hid hgW
    have HH0 : Hid (ApAt W n0 gm #[.int .i64 n, .int .i64 r, .string k, .slice AA an ac, .slice TA tn tc, .slice A m c] (fun kv : Value => #[.int .i64 n, .int .i64 r, .string sDoc, .slice AA an ac, .slice none 0 0, kv]) ks 0 (.slice none 0 0) [] wm) := Lib.hid
      { boxN := hX1m, boxM := hM1, row := Row.nil _ _ _, eq := by simp [vz, rowT], ok := fun j x hj => absurd hj (Nat.not_lt_zero _), below := h1m, hn := by omega, gm_lt := hgn, hW := by omega }
    have hKL := hKF.length
    have hks3 : rsizeL ks ≤ 299 := by have := HSZ.out; rw [rsize] at this; omega
    have hm3 : m ≤ 299 := by rw [← hKL]; exact Nat.le_trans (rsizeL_len ks) hks3
    have HKF := Lib.hid hKF
    have HKL := Lib.hid hKL
    have HK3 := Lib.hid hks3
    clear hX1m hM1 h1m hgW hsm hKF hKL hks3 hn0 hgn hgm w1c0 w1c1 w1c2 w1c3 w1c4 w1c5
    go_loopw [5] (fun s5 wr => ∃ (i : Nat) (zs : List (Z RT 6)) (B : Option Addr) (d : Nat), s5 = .int .i64 i ∧ i ≤ m ∧ Hid (ApAt W n0 gm #[.int .i64 n, .int .i64 r, .string k, .slice AA an ac, .slice TA tn tc, .slice A m c] (fun kv : Value => #[.int .i64 n, .int .i64 r, .string sDoc, .slice AA an ac, .slice none 0 0, kv]) ks i (.slice B zs.length d) zs wr)) (fun s5 _ => m - (intOf s5).toNat)
    case atStart => exact ⟨0, [], none, 0, rfl, Nat.zero_le _, HH0⟩
    case round =>
      clear HH0
      obtain ⟨i, zs, B, d, rfl, him, HH⟩ := hrel
      have hb0 := HH.out.boxN
      have nc0 : wr.cell? ⟨W.heap.size, 0, none⟩ = some (.int .i64 n) := hb0.cell (j := 0) rfl
      have nc1 : wr.cell? ⟨W.heap.size, 1, none⟩ = some (.int .i64 r) := hb0.cell (j := 1) rfl
      have nc2 : wr.cell? ⟨W.heap.size, 2, none⟩ = some (.string k) := hb0.cell (j := 2) rfl
      have nc3 : wr.cell? ⟨W.heap.size, 3, none⟩ = some (.slice AA an ac) := hb0.cell (j := 3) rfl
      have nc4 : wr.cell? ⟨W.heap.size, 4, none⟩ = some (.slice TA tn tc) := hb0.cell (j := 4) rfl
      have nc5 : wr.cell? ⟨W.heap.size, 5, none⟩ = some (.slice A m c) := hb0.cell (j := 5) rfl
      have ncf : ∀ jj, wr.frozen? ⟨W.heap.size, jj, none⟩ = false := fun jj => hb0.frozen
      clear hb0
      by_cases hlt : i < m
      · obtain ⟨b, off, x, u0, u1, u2, u3, u3n, u3c, u4, u4n, u4c, u5, u5n, u5c, rfl, hx, hb, hSb, hxk, hxn, c0, c1, c2, c3, c4, c5⟩ := (HKF.out.stay (.beneath HH.out.below (fun b _ h => h) fun _ _ h => h) : RdF wr (fun b => b < W.heap.size) A m c ks).nodeAt hlt
        have ik : (i : Int) < (m : Int) := by omega
        have ik0 : (0 : Int) ≤ (i : Int) := by omega
        have hmem := rsize_mem (List.mem_of_getElem? hx)
        have hrx : rsize x ≤ 299 := by have := HK3.out; omega
        have hfl : x.kdOf = kd u2 := by unfold RT.kdOf; rw [hxk]
        have hkids : x.kids.length = u5n := by
          obtain ⟨n', r', k', AA', an', ac', TA', tn', tc', A', m', c', at', tx', ks', hve, ht', ha', hp', hks'⟩ := hxn.parts
          rw [ht']
          simp only [List.cons.injEq, Value.slice.injEq, and_true] at hve
          have := hks'.length
          rw [← hve.2.2.2.2.2.2.1] at this
          exact this
        have HFL : Hid (∀ w0, Calls Try.prog 34 #[.string u2] w0 fun e w' => e = .returned (.bool x.kdOf.flow) ∧ w0 = w') := Lib.hid fun w0 => (flow_any u2 w0).mono fun _ _ h => ⟨by rw [hfl]; exact h.1, h.2.symm⟩
        have HX := Lib.hid hx
        have HXN := Lib.hid hxn
        have HRX := Lib.hid hrx
        have HKD := Lib.hid hfl
        have HKIDS := Lib.hid hkids
        clear hx hSb hxk hxn hmem hrx hfl hkids
        obtain ⟨fl, hfl⟩ : ∃ fl, x.kdOf.flow = fl := ⟨_, rfl⟩
        rw [hfl] at HFL
        cases fl
        case false =>
          go_wp2_with fail
          refine (HFL.out _).mono ?_
          rintro e w' ⟨rfl, rfl⟩
          go_wp2_with fail
          refine (alive26_any _).mono ?_
          rintro e w9 ⟨rfl, hB9⟩
          have H9 := Lib.hid (HH.out.below.trans (hB9.mono HH.out.below.size))
          clear hB9
          go_wp2_with fail
          go_ret
          exact ⟨rfl, H9.out⟩
        case true =>
          have HFX := Lib.hid hfl
          clear hfl
          have hal : Below wr.heap.size wr (wr.alloc (.cells #[.int .i64 u0, .int .i64 u1, .string u2, .slice u3 u3n u3c, .slice u4 u4n u4c, .slice u5 u5n u5c] 31)) := blAl _
          have hdoc : NdF (wr.alloc (.cells #[.int .i64 u0, .int .i64 u1, .string u2, .slice u3 u3n u3c, .slice u4 u4n u4c, .slice u5 u5n u5c] 31)) (fun b => b < W.heap.size ∨ b = wr.heap.size) [.int .i64 0, .int .i64 0, .string sDoc, .slice none 0 0, .slice none 0 0, .slice (some ⟨wr.heap.size, 0, none⟩) 1 1] (.node 0 0 sDoc [] [] [x]) :=
            NdF.node (RdA.nil _ _) (RdP.nil _ _) (RdF.one (w := wr) (S := fun b => b < W.heap.size) #[.int .i64 u0, .int .i64 u1, .string u2, .slice u3 u3n u3c, .slice u4 u4n u4c, .slice u5 u5n u5c] x HXN.out (fun b _ h => .inl h) wr.heap.size rfl (.inr rfl))
          have HC := Lib.hid (repair28_any (.node 0 0 sDoc [] [] [x]) (by rw [rsize]; simp only [rsizeL]; have := HRX.out; omega) _ _ _ (fun b h => by
            rw [World.size_alloc]
            have := HH.out.below.size
            rcases h with h | h
            · omega
            · omega) hdoc)
          have HAL := Lib.hid hal
          have hbr : b < wr.heap.size := hb
          clear hal hdoc
          go_wp2_with (first | (go_at_call 34; refine (HFL.out _).mono ?_; rintro e w' ⟨rfl, rfl⟩))
          refine HC.out.mono ?_
          rintro e w2 ⟨v2, rfl, hv2, hB2⟩
          obtain ⟨dl, hdl, hdl2, hdl3⟩ := repair_doc x
          rw [hdl] at hv2
          obtain ⟨q0, q1, q2, q3, q3n, q3c, q4, q4n, q4c, q5, q5n, q5c, qa, qt, qk, hue, hqp⟩ := hv2.parts
          have hue2 : v2 = #[.int .i64 q0, .int .i64 q1, .string q2, .slice q3 q3n q3c, .slice q4 q4n q4c, .slice q5 q5n q5c] := by rw [← Array.toArray_toList (xs := v2), hue]
          subst hue2
          clear hue
          have hqk : qk = dl := by have := hqp.tree; injection this with _ _ _ _ _ e; exact e.symm
          subst hqk
          have hB2' : Below wr.heap.size wr w2 := HAL.out.trans (hB2.mono HAL.out.size)
          have hal2 : Below w2.heap.size w2 (w2.alloc (.cells #[.int .i64 q0, .int .i64 q1, .string q2, .slice q3 q3n q3c, .slice q4 q4n q4c, .slice q5 q5n q5c] 31)) := blAl _
          have hBt : Below wr.heap.size wr (w2.alloc (.cells #[.int .i64 q0, .int .i64 q1, .string q2, .slice q3 q3n q3c, .slice q4 q4n q4c, .slice q5 q5n q5c] 31)) := hB2'.trans (hal2.mono hB2'.size)
          have hDK : RdF (w2.alloc (.cells #[.int .i64 q0, .int .i64 q1, .string q2, .slice q3 q3n q3c, .slice q4 q4n q4c, .slice q5 q5n q5c] 31)) (fun b => b < W.heap.size ∨ wr.heap.size ≤ b) q5 q5n q5c qk := hqp.kids.stay (.below hal2 fun b _ h => by
            rcases h with h | h
            · rcases h with h | h
              · exact .inl h
              · exact .inr (by omega)
            · rw [World.size_alloc] at h; exact .inr (by omega))
          have hXd := HH.out.boxN.below hBt HH.out.boxN.lt
          have hMd := HH.out.boxM.below hBt HH.out.boxM.lt
          have hDd := BoxN.made w2 #[.int .i64 q0, .int .i64 q1, .string q2, .slice q3 q3n q3c, .slice q4 q4n q4c, .slice q5 q5n q5c] 31
          have hRWd := HH.out.row.below hBt
          obtain ⟨zd, hzd, hZd⟩ := hDK.z
          have hzl := Lib.hid hZd.len
          have hcc : ∀ jj vv, wr.cell? ⟨b, off + i * 6 + jj, none⟩ = some vv → (w2.alloc (.cells #[.int .i64 q0, .int .i64 q1, .string q2, .slice q3 q3n q3c, .slice q4 q4n q4c, .slice q5 q5n q5c] 31)).cell? ⟨b, off + i * 6 + jj, none⟩ = some vv := fun jj vv h => (hBt.cell (p := ⟨b, _, none⟩) hbr).trans h
          have e0 : (w2.alloc (.cells #[.int .i64 q0, .int .i64 q1, .string q2, .slice q3 q3n q3c, .slice q4 q4n q4c, .slice q5 q5n q5c] 31)).cell? ⟨b, off + i * 6, none⟩ = _ := hcc 0 _ c0
          have e5 := hcc 5 _ c5
          have HXd := Lib.hid hXd
          have HMd := Lib.hid hMd
          have HDd := Lib.hid hDd
          have HRWd := Lib.hid hRWd
          have HZd := Lib.hid hZd
          have HBd : Hid (Below W.heap.size W (w2.alloc (.cells #[.int .i64 q0, .int .i64 q1, .string q2, .slice q3 q3n q3c, .slice q4 q4n q4c, .slice q5 q5n q5c] 31))) := Lib.hid (HH.out.below.trans (hBt.mono HH.out.below.size))
          have HNd : Hid (n0 ≤ (w2.alloc (.cells #[.int .i64 q0, .int .i64 q1, .string q2, .slice q3 q3n q3c, .slice q4 q4n q4c, .slice q5 q5n q5c] 31)).heap.size) := Lib.hid (Nat.le_trans HH.out.hn hBt.size)
          have HSBd : Hid (∀ b, b < (w2.alloc (.cells #[.int .i64 q0, .int .i64 q1, .string q2, .slice q3 q3n q3c, .slice q4 q4n q4c, .slice q5 q5n q5c] 31)).heap.size → (b < W.heap.size ∨ wr.heap.size ≤ b) → Sx n0 (fun b => b < W.heap.size) (.slice B zs.length d) b) := Lib.hid fun b _ h => ⟨h.imp id fun h => Nat.le_trans HH.out.hn h, fun e => by
            have h1 := HH.out.row.low b e
            have := HH.out.hW
            omega⟩
          have HLEN : Hid (zs.length + zd.length ≤ 900000) := Lib.hid (by
            have e1 : zs.length = (rowT (ks.take i)).length := by rw [← HH.out.eq, vz_len]
            have e2 := rowT_len (ks.take i)
            have e3 := rsizeL_take ks i
            have e4 : zd.length = qk.length := by rw [← hzd, vz_len]
            have := HK3.out; have := HRX.out
            omega)
          have HVZ := Lib.hid hzd
          have HD2 := Lib.hid hdl2
          have d0 : (w2.alloc (.cells #[.int .i64 q0, .int .i64 q1, .string q2, .slice q3 q3n q3c, .slice q4 q4n q4c, .slice q5 q5n q5c] 31)).cell? ⟨W.heap.size, 0, none⟩ = some (.int .i64 n) := hXd.cell (j := 0) rfl
          have d1 : (w2.alloc (.cells #[.int .i64 q0, .int .i64 q1, .string q2, .slice q3 q3n q3c, .slice q4 q4n q4c, .slice q5 q5n q5c] 31)).cell? ⟨W.heap.size, 1, none⟩ = some (.int .i64 r) := hXd.cell (j := 1) rfl
          have d2 : (w2.alloc (.cells #[.int .i64 q0, .int .i64 q1, .string q2, .slice q3 q3n q3c, .slice q4 q4n q4c, .slice q5 q5n q5c] 31)).cell? ⟨W.heap.size, 2, none⟩ = some (.string k) := hXd.cell (j := 2) rfl
          have d3 : (w2.alloc (.cells #[.int .i64 q0, .int .i64 q1, .string q2, .slice q3 q3n q3c, .slice q4 q4n q4c, .slice q5 q5n q5c] 31)).cell? ⟨W.heap.size, 3, none⟩ = some (.slice AA an ac) := hXd.cell (j := 3) rfl
          have d4 : (w2.alloc (.cells #[.int .i64 q0, .int .i64 q1, .string q2, .slice q3 q3n q3c, .slice q4 q4n q4c, .slice q5 q5n q5c] 31)).cell? ⟨W.heap.size, 4, none⟩ = some (.slice TA tn tc) := hXd.cell (j := 4) rfl
          have d5 : (w2.alloc (.cells #[.int .i64 q0, .int .i64 q1, .string q2, .slice q3 q3n q3c, .slice q4 q4n q4c, .slice q5 q5n q5c] 31)).cell? ⟨W.heap.size, 5, none⟩ = some (.slice (some ⟨b, off, none⟩) m c) := hXd.cell (j := 5) rfl
          have hgs : (w2.alloc (.cells #[.int .i64 q0, .int .i64 q1, .string q2, .slice q3 q3n q3c, .slice q4 q4n q4c, .slice q5 q5n q5c] 31)).cell? ⟨w2.heap.size, 5, none⟩ = some (.slice q5 q5n q5c) := hDd.cell (j := 5) rfl
          have hms : (w2.alloc (.cells #[.int .i64 q0, .int .i64 q1, .string q2, .slice q3 q3n q3c, .slice q4 q4n q4c, .slice q5 q5n q5c] 31)).cell? ⟨gm, 5, none⟩ = some (.slice B zs.length d) := hMd.cell (j := 5) rfl
          clear hv2 hB2 hqp hdl hdl2 hdl3 hB2' hal2 hBt hDK hXd hMd hDd hRWd hZd hzd hcc HC c0 c1 c2 c3 c4 c5
          have qp : (u2.toList == [112, 97, 114, 97]) = (kd u2 == .para) := is_para u2
          have qh : (u2.toList == [104, 101, 97, 100]) = (kd u2 == .head) := is_head u2
          have HPH : Hid ((kd u2 == .para) = true ∨ (kd u2 == .head) = true → u5n = 0 → Apart x) := Lib.hid fun _ h => ⟨HFX.out, fun _ => List.eq_nil_of_length_eq_zero (by rw [HKIDS.out, h])⟩
          have HPN : Hid ((kd u2 == .para) = false → (kd u2 == .head) = false → Apart x) := Lib.hid fun h1 h2 => ⟨HFX.out, fun h => by
            rw [HKD.out] at h
            rcases h with h | h
            · rw [h] at h1; exact absurd h1 (by decide)
            · rw [h] at h2; exact absurd h2 (by decide)⟩
          generalize (kd u2 == Kd.para) = bp at *
          generalize (kd u2 == Kd.head) = bh at *
          cases bp
          case false =>
            cases bh
            case false =>
              have HAP := Lib.hid (HPN.out rfl rfl)
              have HVD : Hid (vz zd = nodeT x) := Lib.hid (by rw [HVZ.out]; exact HD2.out HAP.out)
              go_wp2_with (at_builtin; refine wpList_rows rfl (.tmp 61) (.tmp 63) rfl rfl HRWd.out rfl HZd.out HSBd.out ?len HNd.out ?_)
              case len => have := HLEN.out; omega
              intro A' c' w5 hrow5 hg5 hat5
              have hB5 : Below W.heap.size W w5 := HBd.out.trans ((HRWd.out.grown_below hg5 HNd.out).mono (by have := HH.out.hW; omega))
              have hXM5 : BoxN w5 gm ((fun kv : Value => #[.int .i64 n, .int .i64 r, .string sDoc, .slice AA an ac, .slice none 0 0, kv]) (.slice B zs.length d)) 31 := HMd.out.below (HRWd.out.grown_below hg5 HNd.out) HH.out.gm_lt
              have hX5 := HXd.out.below (HRWd.out.grown_below hg5 HNd.out) HH.out.hW
              have HX5 := Lib.hid hX5
              have HM5 := Lib.hid hXM5
              have HB5 := Lib.hid hB5
              have HR5 := Lib.hid hrow5
              have g5 : w5.cell? ⟨gm, 5, none⟩ = some (.slice B zs.length d) := hXM5.cell (j := 5) rfl
              have f5 : w5.frozen? ⟨gm, 5, none⟩ = false := hXM5.frozen
              have hne5 : W.heap.size ≠ gm := fun e => by have := HH.out.gm_lt; have := HGW.out; omega
              have HN5 : Hid (n0 ≤ w5.heap.size) := Lib.hid (Nat.le_trans HNd.out hg5.size)
              clear hX5 hXM5 hB5 hrow5 hg5 hat5
              go_wp2_with fail
              go_roundw
              case rel =>
                refine ⟨i + 1, zs ++ zd, A', c', by go_num, by omega, Lib.hid ?_⟩
                rw [List.length_append]
                exact { boxN := HX5.out.farD (p := ⟨gm, 5, none⟩) hne5 _
                        boxM := HM5.out.setAt 5 _
                        row := ⟨ownsRow_setCell_other HR5.out.own (fun e => by have h1 := (HR5.out.low gm e).1; have := HH.out.gm_lt; omega) _, fun z hz => (HR5.out.all z hz).stay (set_stay _ (fun b hb e => by
                          have e2 : b = gm := e
                          have h3 := HGW.out
                          have h4 := HH.out.gm_lt
                          rcases hb.1 with h1 | h1
                          · have h2 : b < W.heap.size := h1
                            omega
                          · have h2 : n0 ≤ b := h1
                            omega) fun _ h => h)⟩
                        eq := by rw [vz_append, HH.out.eq, HVD.out, rowT_take HX.out]
                        ok := fun j y hj hy => by
                          rcases Nat.lt_or_ge j i with h | h
                          · exact HH.out.ok j y h hy
                          · obtain rfl : j = i := by omega
                            rw [HX.out] at hy; cases hy; exact HAP.out
                        below := HB5.out.setCell (p := ⟨gm, 5, none⟩) (by have := HGW.out; simp; omega) _
                        hn := by simpa [World.setCell] using HN5.out
                        gm_lt := HH.out.gm_lt
                        hW := HH.out.hW }
              case measure => simp [intOf]; omega
            case true =>
              by_cases hz : u5n = 0
              · have HAP := Lib.hid (HPH.out (by simp) hz)
                have HVD : Hid (vz zd = nodeT x) := Lib.hid (by rw [HVZ.out]; exact HD2.out HAP.out)
                subst hz
                go_wp2_with (at_builtin; refine wpList_rows rfl (.tmp 61) (.tmp 63) rfl rfl HRWd.out rfl HZd.out HSBd.out ?len HNd.out ?_)
                case len => have := HLEN.out; omega
                intro A' c' w5 hrow5 hg5 hat5
                have hB5 : Below W.heap.size W w5 := HBd.out.trans ((HRWd.out.grown_below hg5 HNd.out).mono (by have := HH.out.hW; omega))
                have hXM5 : BoxN w5 gm ((fun kv : Value => #[.int .i64 n, .int .i64 r, .string sDoc, .slice AA an ac, .slice none 0 0, kv]) (.slice B zs.length d)) 31 := HMd.out.below (HRWd.out.grown_below hg5 HNd.out) HH.out.gm_lt
                have hX5 := HXd.out.below (HRWd.out.grown_below hg5 HNd.out) HH.out.hW
                have HX5 := Lib.hid hX5
                have HM5 := Lib.hid hXM5
                have HB5 := Lib.hid hB5
                have HR5 := Lib.hid hrow5
                have g5 : w5.cell? ⟨gm, 5, none⟩ = some (.slice B zs.length d) := hXM5.cell (j := 5) rfl
                have f5 : w5.frozen? ⟨gm, 5, none⟩ = false := hXM5.frozen
                have hne5 : W.heap.size ≠ gm := fun e => by have := HH.out.gm_lt; have := HGW.out; omega
                have HN5 : Hid (n0 ≤ w5.heap.size) := Lib.hid (Nat.le_trans HNd.out hg5.size)
                clear hX5 hXM5 hB5 hrow5 hg5 hat5
                go_wp2_with fail
                go_roundw
                case rel =>
                  refine ⟨i + 1, zs ++ zd, A', c', by go_num, by omega, Lib.hid ?_⟩
                  rw [List.length_append]
                  exact { boxN := HX5.out.farD (p := ⟨gm, 5, none⟩) hne5 _
                          boxM := HM5.out.setAt 5 _
                          row := ⟨ownsRow_setCell_other HR5.out.own (fun e => by have h1 := (HR5.out.low gm e).1; have := HH.out.gm_lt; omega) _, fun z hz => (HR5.out.all z hz).stay (set_stay _ (fun b hb e => by
                            have e2 : b = gm := e
                            have h3 := HGW.out
                            have h4 := HH.out.gm_lt
                            rcases hb.1 with h1 | h1
                            · have h2 : b < W.heap.size := h1
                              omega
                            · have h2 : n0 ≤ b := h1
                              omega) fun _ h => h)⟩
                          eq := by rw [vz_append, HH.out.eq, HVD.out, rowT_take HX.out]
                          ok := fun j y hj hy => by
                            rcases Nat.lt_or_ge j i with h | h
                            · exact HH.out.ok j y h hy
                            · obtain rfl : j = i := by omega
                              rw [HX.out] at hy; cases hy; exact HAP.out
                          below := HB5.out.setCell (p := ⟨gm, 5, none⟩) (by have := HGW.out; simp; omega) _
                          hn := by simpa [World.setCell] using HN5.out
                          gm_lt := HH.out.gm_lt
                          hW := HH.out.hW }
                case measure => simp [intOf]; omega
              · have hz2 : (0 : Int) < (u5n : Int) := by omega
                go_wp2_with fail
                refine (alive26_any _).mono ?_
                rintro e w9 ⟨rfl, hB9⟩
                have H9 := Lib.hid (HBd.out.trans (hB9.mono HBd.out.size))
                clear hB9
                go_wp2_with fail
                go_ret
                exact ⟨rfl, H9.out⟩
          case true =>
            by_cases hz : u5n = 0
            · have HAP := Lib.hid (HPH.out (by simp) hz)
              have HVD : Hid (vz zd = nodeT x) := Lib.hid (by rw [HVZ.out]; exact HD2.out HAP.out)
              subst hz
              go_wp2_with (at_builtin; refine wpList_rows rfl (.tmp 61) (.tmp 63) rfl rfl HRWd.out rfl HZd.out HSBd.out ?len HNd.out ?_)
              case len => have := HLEN.out; omega
              intro A' c' w5 hrow5 hg5 hat5
              have hB5 : Below W.heap.size W w5 := HBd.out.trans ((HRWd.out.grown_below hg5 HNd.out).mono (by have := HH.out.hW; omega))
              have hXM5 : BoxN w5 gm ((fun kv : Value => #[.int .i64 n, .int .i64 r, .string sDoc, .slice AA an ac, .slice none 0 0, kv]) (.slice B zs.length d)) 31 := HMd.out.below (HRWd.out.grown_below hg5 HNd.out) HH.out.gm_lt
              have hX5 := HXd.out.below (HRWd.out.grown_below hg5 HNd.out) HH.out.hW
              have HX5 := Lib.hid hX5
              have HM5 := Lib.hid hXM5
              have HB5 := Lib.hid hB5
              have HR5 := Lib.hid hrow5
              have g5 : w5.cell? ⟨gm, 5, none⟩ = some (.slice B zs.length d) := hXM5.cell (j := 5) rfl
              have f5 : w5.frozen? ⟨gm, 5, none⟩ = false := hXM5.frozen
              have hne5 : W.heap.size ≠ gm := fun e => by have := HH.out.gm_lt; have := HGW.out; omega
              have HN5 : Hid (n0 ≤ w5.heap.size) := Lib.hid (Nat.le_trans HNd.out hg5.size)
              clear hX5 hXM5 hB5 hrow5 hg5 hat5
              go_wp2_with fail
              go_roundw
              case rel =>
                refine ⟨i + 1, zs ++ zd, A', c', by go_num, by omega, Lib.hid ?_⟩
                rw [List.length_append]
                exact { boxN := HX5.out.farD (p := ⟨gm, 5, none⟩) hne5 _
                        boxM := HM5.out.setAt 5 _
                        row := ⟨ownsRow_setCell_other HR5.out.own (fun e => by have h1 := (HR5.out.low gm e).1; have := HH.out.gm_lt; omega) _, fun z hz => (HR5.out.all z hz).stay (set_stay _ (fun b hb e => by
                          have e2 : b = gm := e
                          have h3 := HGW.out
                          have h4 := HH.out.gm_lt
                          rcases hb.1 with h1 | h1
                          · have h2 : b < W.heap.size := h1
                            omega
                          · have h2 : n0 ≤ b := h1
                            omega) fun _ h => h)⟩
                        eq := by rw [vz_append, HH.out.eq, HVD.out, rowT_take HX.out]
                        ok := fun j y hj hy => by
                          rcases Nat.lt_or_ge j i with h | h
                          · exact HH.out.ok j y h hy
                          · obtain rfl : j = i := by omega
                            rw [HX.out] at hy; cases hy; exact HAP.out
                        below := HB5.out.setCell (p := ⟨gm, 5, none⟩) (by have := HGW.out; simp; omega) _
                        hn := by simpa [World.setCell] using HN5.out
                        gm_lt := HH.out.gm_lt
                        hW := HH.out.hW }
              case measure => simp [intOf]; omega
            · have hz2 : (0 : Int) < (u5n : Int) := by omega
              go_wp2_with fail
              refine (alive26_any _).mono ?_
              rintro e w9 ⟨rfl, hB9⟩
              have H9 := Lib.hid (HBd.out.trans (hB9.mono HBd.out.size))
              clear hB9
              go_wp2_with fail
              go_ret
              exact ⟨rfl, H9.out⟩
      · obtain rfl : i = m := by omega
        have hall : ∀ x ∈ ks, Apart x := fun x hx => by
          obtain ⟨j, hj, rfl⟩ := List.getElem_of_mem hx
          exact HH.out.ok j _ (by rw [← HKL.out]; exact hj) (List.getElem?_eq_getElem hj)
        have HALL := Lib.hid hall
        have hi2 : ¬ (i : Int) < (i : Int) := by omega
        clear hall
        go_wp2_with fail
        have hXs : BoxN (wr.setCell ⟨W.heap.size, 4, none⟩ (.slice none 0 0)) W.heap.size #[.int .i64 n, .int .i64 r, .string k, .slice AA an ac, .slice none 0 0, .slice A i c] 31 := HH.out.boxN.setAt 4 (.slice none 0 0)
        have hMs : BoxN (wr.setCell ⟨W.heap.size, 4, none⟩ (.slice none 0 0)) gm ((fun kv : Value => #[.int .i64 n, .int .i64 r, .string sDoc, .slice AA an ac, .slice none 0 0, kv]) (.slice B zs.length d)) 31 := HH.out.boxM.farD (p := ⟨W.heap.size, 4, none⟩) (fun e => by have := HGW.out; simp at e; omega) _
        have hBs : Below W.heap.size W (wr.setCell ⟨W.heap.size, 4, none⟩ (.slice none 0 0)) := HH.out.below.setCell (p := ⟨W.heap.size, 4, none⟩) (Nat.le_refl _) _
        have hKs : RdF (wr.setCell ⟨W.heap.size, 4, none⟩ (.slice none 0 0)) (Sn n0 fun b => b < W.heap.size) B zs.length d (rowT ks) := by
          have h1 := HH.out.row.rd (S' := Sn n0 fun b => b < W.heap.size) fun _ _ h => h
          rw [HH.out.eq, List.take_of_length_le (by rw [HKL.out]; exact Nat.le_refl _)] at h1
          refine h1.stay (set_stay (p := ⟨W.heap.size, 4, none⟩) _ (fun b h e => ?_) fun _ h => h)
          have := HH.out.hW
          rcases h with h | h
          · simp at e; omega
          · simp at e; omega
        clear nc0 nc1 nc2 nc3 nc4 nc5
        generalize wr.setCell ⟨W.heap.size, 4, none⟩ (.slice none 0 0) = ws at *
        have hNt : NdF ws (fun b => b < W.heap.size) (#[.int .i64 n, .int .i64 r, .string k, .slice AA an ac, .slice none 0 0, .slice A i c] : Array Value).toList (.node n r k at_ [] ks) := NdF.node (HAT.out.stay (.beneath hBs (fun b _ h => h) fun _ _ h => h)) (RdP.nil _ _) (HKF.out.stay (.beneath hBs (fun b _ h => h) fun _ _ h => h))
        have hMt : NdF ws (Sn n0 fun b => b < W.heap.size) (((fun kv : Value => #[.int .i64 n, .int .i64 r, .string sDoc, .slice AA an ac, .slice none 0 0, kv]) (.slice B zs.length d)) : Array Value).toList (.node n r sDoc at_ [] (rowT ks)) := NdF.node (HAT.out.stay (.beneath hBs (fun b _ h => h) fun _ _ h => .inl h)) (RdP.nil _ _) hKs
        have HXs := Lib.hid hXs
        have HMs := Lib.hid hMs
        have HBs := Lib.hid hBs
        have HNt := Lib.hid hNt
        have HMt := Lib.hid hMt
        clear hXs hMs hBs hKs hNt hMt
        refine wp_region_held (S := (fun w' : World => BoxN w' W.heap.size #[.int .i64 n, .int .i64 r, .string k, .slice AA an ac, .slice none 0 0, .slice A i c] 31 ∧ BoxN w' gm #[.int .i64 n, .int .i64 r, .string sDoc, .slice AA an ac, .slice none 0 0, .slice B zs.length d] 31)) (by kernel_rfl) ?_
        change wpAnyH _ _ _ _ _ _ _ _ ws.drew
        have HSW : (fun w' : World => BoxN w' W.heap.size #[.int .i64 n, .int .i64 r, .string k, .slice AA an ac, .slice none 0 0, .slice A i c] 31 ∧ BoxN w' gm #[.int .i64 n, .int .i64 r, .string sDoc, .slice AA an ac, .slice none 0 0, .slice B zs.length d] 31) ws.drew := ⟨HXs.out, HMs.out⟩
        refine held_take (i := 0) (v := .agg #[.int .i64 n, .int .i64 r, .string k, .slice AA an ac, .slice none 0 0, .slice A i c]) rfl (by kernel_rfl) (by kernel_rfl) (by kernel_rfl) (fun _ _ _ h => h) rfl (fun w' hS => by
          have e0 := BoxN.cell (j := 0) hS.1 rfl
          have g0 := BoxN.cell (j := 0) hS.2 rfl
          have e1 := BoxN.cell (j := 1) hS.1 rfl
          have g1 := BoxN.cell (j := 1) hS.2 rfl
          have e2 := BoxN.cell (j := 2) hS.1 rfl
          have g2 := BoxN.cell (j := 2) hS.2 rfl
          have e3 := BoxN.cell (j := 3) hS.1 rfl
          have g3 := BoxN.cell (j := 3) hS.2 rfl
          have e4 := BoxN.cell (j := 4) hS.1 rfl
          have g4 := BoxN.cell (j := 4) hS.2 rfl
          have e5 := BoxN.cell (j := 5) hS.1 rfl
          have g5 := BoxN.cell (j := 5) hS.2 rfl
          clear hS
          go_simp) HSW ?_
        simp only [Act.put, List.setIfInBounds_toArray, List.set_cons_succ, List.set_cons_zero, List.getElem_toArray, List.getElem_cons_succ, List.getElem_cons_zero]
        refine held_take (i := 2) (v := .agg #[.int .i64 n, .int .i64 r, .string sDoc, .slice AA an ac, .slice none 0 0, .slice B zs.length d]) rfl (by kernel_rfl) (by kernel_rfl) (by kernel_rfl) (fun _ _ _ h => h) rfl (fun w' hS => by
          have e0 := BoxN.cell (j := 0) hS.1 rfl
          have g0 := BoxN.cell (j := 0) hS.2 rfl
          have e1 := BoxN.cell (j := 1) hS.1 rfl
          have g1 := BoxN.cell (j := 1) hS.2 rfl
          have e2 := BoxN.cell (j := 2) hS.1 rfl
          have g2 := BoxN.cell (j := 2) hS.2 rfl
          have e3 := BoxN.cell (j := 3) hS.1 rfl
          have g3 := BoxN.cell (j := 3) hS.2 rfl
          have e4 := BoxN.cell (j := 4) hS.1 rfl
          have g4 := BoxN.cell (j := 4) hS.2 rfl
          have e5 := BoxN.cell (j := 5) hS.1 rfl
          have g5 := BoxN.cell (j := 5) hS.2 rfl
          clear hS
          go_simp) HSW ?_
        simp only [Act.put, List.setIfInBounds_toArray, List.set_cons_succ, List.set_cons_zero, List.getElem_toArray, List.getElem_cons_succ, List.getElem_cons_zero]
        have hd : Below ws.heap.size ws ws.drew := (Below.refl _ _).drew
        have hrep : repairT (.node n r k at_ [] ks) = .node n r sDoc at_ [] (rowT ks) := apart_all HALL.out
        have hsz4 : rsize (RT.node n r k at_ [] ks) ≤ 100000 := by have := HSZ.out; rw [rsize] at this ⊢; omega
        refine held_call (i := 1) (by kernel_rfl) rfl rfl rfl (enters_of Try.func28 (by kernel_rfl) rfl) [.agg #[.int .i64 n, .int .i64 r, .string k, .slice AA an ac, .slice none 0 0, .slice A i c]] rfl (repair28_any (.node n r k at_ [] ks) hsz4 ws.drew (fun b => b < W.heap.size) _ (fun b h => Nat.lt_of_lt_of_le h (Nat.le_trans HBs.out.size hd.size)) (HNt.out.stay (.below hd fun _ _ h => h))) ?_
        rw [hrep]
        rintro e w4 ⟨v4, rfl, hv4, hB4⟩
        have h4 : Below ws.heap.size ws w4 := hd.trans hB4
        have HSW4 : (fun w' : World => BoxN w' W.heap.size #[.int .i64 n, .int .i64 r, .string k, .slice AA an ac, .slice none 0 0, .slice A i c] 31 ∧ BoxN w' gm #[.int .i64 n, .int .i64 r, .string sDoc, .slice AA an ac, .slice none 0 0, .slice B zs.length d] 31) w4 := ⟨HXs.out.below h4 HXs.out.lt, HMs.out.below h4 HMs.out.lt⟩
        refine ⟨_, rfl, HSW4, ?_⟩
        simp only [Act.put, List.setIfInBounds_toArray, List.set_cons_succ, List.set_cons_zero, List.getElem_toArray, List.getElem_cons_succ, List.getElem_cons_zero]
        refine held_call (i := 3) (by kernel_rfl) rfl rfl rfl (enters_of Try.func27 (by kernel_rfl) rfl) [.agg v4, .agg #[.int .i64 n, .int .i64 r, .string sDoc, .slice AA an ac, .slice none 0 0, .slice B zs.length d]] rfl (same19_any (rsize (RT.node n r sDoc at_ [] (rowT ks)) + 1) _ (Nat.lt_succ_self _) _ _ _ _ hv4.bare (HMt.out.bare.beneath h4 h4.size)) ?_
        rintro e w5 ⟨bb, rfl, hbb, hB5⟩
        obtain rfl := hbb rfl
        have h5 : Below ws.heap.size ws w5 := h4.trans (hB5.mono h4.size)
        have HSW5 : (fun w' : World => BoxN w' W.heap.size #[.int .i64 n, .int .i64 r, .string k, .slice AA an ac, .slice none 0 0, .slice A i c] 31 ∧ BoxN w' gm #[.int .i64 n, .int .i64 r, .string sDoc, .slice AA an ac, .slice none 0 0, .slice B zs.length d] 31) w5 := ⟨HXs.out.below h5 HXs.out.lt, HMs.out.below h5 HMs.out.lt⟩
        refine ⟨_, rfl, HSW5, ?_⟩
        simp only [Act.put, List.setIfInBounds_toArray, List.set_cons_succ, List.set_cons_zero, List.getElem_toArray, List.getElem_cons_succ, List.getElem_cons_zero]
        refine held_take (i := 4) (v := .bool true) rfl (by kernel_rfl) (by kernel_rfl) (by kernel_rfl) (fun _ _ _ h => h) rfl (fun w' hS => by
          have e0 := BoxN.cell (j := 0) hS.1 rfl
          have g0 := BoxN.cell (j := 0) hS.2 rfl
          have e1 := BoxN.cell (j := 1) hS.1 rfl
          have g1 := BoxN.cell (j := 1) hS.2 rfl
          have e2 := BoxN.cell (j := 2) hS.1 rfl
          have g2 := BoxN.cell (j := 2) hS.2 rfl
          have e3 := BoxN.cell (j := 3) hS.1 rfl
          have g3 := BoxN.cell (j := 3) hS.2 rfl
          have e4 := BoxN.cell (j := 4) hS.1 rfl
          have g4 := BoxN.cell (j := 4) hS.2 rfl
          have e5 := BoxN.cell (j := 5) hS.1 rfl
          have g5 := BoxN.cell (j := 5) hS.2 rfl
          clear hS
          go_simp) HSW5 ?_
        simp only [Act.put, List.setIfInBounds_toArray, List.set_cons_succ, List.set_cons_zero, List.getElem_toArray, List.getElem_cons_succ, List.getElem_cons_zero]
        refine wpAnyH_done (by kernel_rfl) ?_ _
        have H5 := Lib.hid (HBs.out.trans (h5.mono HBs.out.size))
        clear HSW HSW4 HSW5 hd h4 h5 hB4 hB5 hbb hv4
        go_wp2_with fail
        refine (alive26_any _).mono ?_
        rintro e w7 ⟨rfl, hB7⟩
        have H7 := Lib.hid (H5.out.trans (hB7.mono H5.out.size))
        clear hB7
        go_wp2_with fail
        go_ret
        exact ⟨rfl, H7.out⟩
end Go.Proofs.Ytcdhndhgainadaa.repairApart
