/-
  THE WALK OF GrammarKid (under way: region 4 is cut around, region 5 is not walked yet).
-/
import Derived.Test.YtcdhndhgainadaaKidCut
namespace Go.Proofs.Ytcdhndhgainadaa.grammarKid
open Go Go.RowKit
set_option linter.unusedVariables false

set_option maxRecDepth 100000 in
set_option maxHeartbeats 4000000 in
theorem walk (W : World) (v : List Value) (t : Tree) (hNd : Nd W W.heap.size v t) (v2 : List Value) (u : Tree) (hNd2 : Nd W W.heap.size v2 u) : Calls Try.prog 6 #[.agg v.toArray, .agg v2.toArray] W fun e w' => e = .returned (.bool true) ∧ Below W.heap.size W w' := by
  cases hNd with
  | mk n r k AA an ac A c TA tn tc kc ks hk hkids hcap hmax htn =>
  obtain ⟨T, hT⟩ : ∃ T, Tree.node n r k tn ks = T := ⟨_, rfl⟩
  obtain ⟨m, hm⟩ : ∃ m, ks.length = m := ⟨_, rfl⟩
  have hnd : Nd W W.heap.size [.int .i64 n, .int .i64 r, .string k, .slice AA an ac, .slice TA tn tc, .slice A m c] T := by
    rw [← hT, ← hm]; exact .mk n r k AA an ac A c TA tn tc kc ks hk hkids hcap hmax htn
  obtain ⟨un, ur, uk, uAA, uan, uac, uTA, utn, utc, uA, um, uc, rfl⟩ := hNd2.six
  have hF0 : Below W.heap.size W ((W.alloc (.cells #[.int .i64 n, .int .i64 r, .string k, .slice AA an ac, .slice TA tn tc, .slice A m c] 31)).alloc (.cells #[.int .i64 un, .int .i64 ur, .string uk, .slice uAA uan uac, .slice uTA utn utc, .slice uA um uc] 31)) := ((Below.refl _ W).alloc (Nat.le_refl _) _).alloc (by simp) _
  have HF0 := Lib.hid hF0
  have HX0 := Lib.hid ((BoxN.made W #[.int .i64 n, .int .i64 r, .string k, .slice AA an ac, .slice TA tn tc, .slice A m c] 31).alloc (.cells #[.int .i64 un, .int .i64 ur, .string uk, .slice uAA uan uac, .slice uTA utn utc, .slice uA um uc] 31))
  have hY0 := BoxN.made (W.alloc (.cells #[.int .i64 n, .int .i64 r, .string k, .slice AA an ac, .slice TA tn tc, .slice A m c] 31)) #[.int .i64 un, .int .i64 ur, .string uk, .slice uAA uan uac, .slice uTA utn utc, .slice uA um uc] 31
  rw [World.size_alloc] at hY0
  have HY0 := Lib.hid hY0
  have HC := Lib.hid (count_more (tsz T + 1) T (Nat.lt_succ_self _) _ 300 (by omega) (by omega) _ _ (hnd.beneath hF0) hF0.size)
  have HC2 := Lib.hid (fun (w1 : World) (h : Below W.heap.size W w1) => count_any (tsz u + 1) u (Nat.lt_succ_self _) _ 300 (by omega) (by omega) _ _ (hNd2.beneath h) h.size)
  obtain ⟨rt, hrt⟩ : ∃ rt, rightT T = rt := ⟨_, rfl⟩
  have HRI := Lib.hid (fun (w1 : World) (h : Below W.heap.size W w1) => gright_any (hnd.beneath h) h.size)
  rw [hrt] at HRI
  have hsn : rt = true → rightT (.node n r k tn (ks ++ [u])) = rightT (.node 0 0 sDoc 0 [u]) := fun h => right_snoc (by rw [hT, hrt, h]) u
  have HSN := Lib.hid hsn
  have HNK : Hid (nkids T = m) := Lib.hid (by rw [← hT, ← hm]; rfl)
  have HN2 := Lib.hid hNd2
  have HK := Lib.hid hk
  have HKK := Lib.hid hkids
  have HM := Lib.hid hm
  rw [hm] at hcap ⊢
  clear hk hkids hm hnd hF0 hrt hT hsn hY0 hNd2
  go_enter Try.func6, Try.ntmps6
  go_wp2_with fail
  refine HC.out.mono ?_
  rintro e w1 ⟨cn, rfl, hc1, hc2, hcn, hB1⟩
  have HCN := Lib.hid hcn
  clear hcn
  have H1 := Lib.hid (HF0.out.trans (hB1.mono HF0.out.size))
  have HX1 := Lib.hid (HX0.out.below hB1 (by simp; omega))
  have HY1 := Lib.hid (HY0.out.below hB1 (by simp))
  clear HC HF0 HX0 HY0 hB1
  by_cases hbig : 300 < cn
  · go_wp2_with fail
    refine (alive_any w1).mono ?_
    rintro e w2 ⟨rfl, hB2⟩
    have H2 := Lib.hid (H1.out.trans (hB2.mono H1.out.size))
    clear hB2
    go_wp2_with fail
    go_ret
    exact ⟨rfl, H2.out⟩
  · have y0 : w1.cell? ⟨W.heap.size + 1, 0, none⟩ = some (.int .i64 un) := HY1.out.cell (j := 0) rfl
    have y1 : w1.cell? ⟨W.heap.size + 1, 1, none⟩ = some (.int .i64 ur) := HY1.out.cell (j := 1) rfl
    have y2 : w1.cell? ⟨W.heap.size + 1, 2, none⟩ = some (.string uk) := HY1.out.cell (j := 2) rfl
    have y3 : w1.cell? ⟨W.heap.size + 1, 3, none⟩ = some (.slice uAA uan uac) := HY1.out.cell (j := 3) rfl
    have y4 : w1.cell? ⟨W.heap.size + 1, 4, none⟩ = some (.slice uTA utn utc) := HY1.out.cell (j := 4) rfl
    have y5 : w1.cell? ⟨W.heap.size + 1, 5, none⟩ = some (.slice uA um uc) := HY1.out.cell (j := 5) rfl
    go_wp2_with fail
    refine (HC2.out w1 H1.out).mono ?_
    rintro e w2 ⟨cn2, rfl, hd1, hd2, hB2⟩
    have H2 := Lib.hid (H1.out.trans (hB2.mono H1.out.size))
    have HX2 := Lib.hid (HX1.out.below hB2 HX1.out.lt)
    have HY2 := Lib.hid (HY1.out.below hB2 HY1.out.lt)
    clear hB2 H1 HX1 HY1 y0 y1 y2 y3 y4 y5 HC2
    by_cases hbig2 : 300 < cn2
    · go_wp2_with fail
      refine (alive_any w2).mono ?_
      rintro e w3 ⟨rfl, hB3⟩
      have H3 := Lib.hid (H2.out.trans (hB3.mono H2.out.size))
      clear hB3
      go_wp2_with fail
      go_ret
      exact ⟨rfl, H3.out⟩
    · have n0 : w2.cell? ⟨W.heap.size, 0, none⟩ = some (.int .i64 n) := HX2.out.cell (j := 0) rfl
      have n1 : w2.cell? ⟨W.heap.size, 1, none⟩ = some (.int .i64 r) := HX2.out.cell (j := 1) rfl
      have n2 : w2.cell? ⟨W.heap.size, 2, none⟩ = some (.string k) := HX2.out.cell (j := 2) rfl
      have n3 : w2.cell? ⟨W.heap.size, 3, none⟩ = some (.slice AA an ac) := HX2.out.cell (j := 3) rfl
      have n4 : w2.cell? ⟨W.heap.size, 4, none⟩ = some (.slice TA tn tc) := HX2.out.cell (j := 4) rfl
      have n5 : w2.cell? ⟨W.heap.size, 5, none⟩ = some (.slice A m c) := HX2.out.cell (j := 5) rfl
      go_wp2_with fail
      refine (HRI.out w2 H2.out).mono ?_
      rintro e w3 ⟨rfl, hB3⟩
      have H3 := Lib.hid (H2.out.trans (hB3.mono H2.out.size))
      have HX3 := Lib.hid (HX2.out.below hB3 HX2.out.lt)
      have HY3 := Lib.hid (HY2.out.below hB3 HY2.out.lt)
      clear hB3 H2 HX2 HY2 n0 n1 n2 n3 n4 n5 HRI
      cases rt with
      | false =>
        go_wp2_with fail
        refine (alive_any w3).mono ?_
        rintro e w4 ⟨rfl, hB4⟩
        have H4 := Lib.hid (H3.out.trans (hB4.mono H3.out.size))
        clear hB4
        go_wp2_with fail
        go_ret
        exact ⟨rfl, H4.out⟩
      | true =>
        have n0 : w3.cell? ⟨W.heap.size, 0, none⟩ = some (.int .i64 n) := HX3.out.cell (j := 0) rfl
        have n1 : w3.cell? ⟨W.heap.size, 1, none⟩ = some (.int .i64 r) := HX3.out.cell (j := 1) rfl
        have n2 : w3.cell? ⟨W.heap.size, 2, none⟩ = some (.string k) := HX3.out.cell (j := 2) rfl
        have n3 : w3.cell? ⟨W.heap.size, 3, none⟩ = some (.slice AA an ac) := HX3.out.cell (j := 3) rfl
        have n4 : w3.cell? ⟨W.heap.size, 4, none⟩ = some (.slice TA tn tc) := HX3.out.cell (j := 4) rfl
        have n5 : w3.cell? ⟨W.heap.size, 5, none⟩ = some (.slice A m c) := HX3.out.cell (j := 5) rfl
        obtain ⟨zs, hzt, hzn, hzr⟩ := kids_row HK.out HKK.out
        rw [HM.out] at hzr
        have hm300 : m ≤ 300 := by have := HCN.out (by omega); rw [HNK.out] at this; omega
        have hzl : zs.length = m := by rw [← HM.out, ← hzt, ztrees, List.length_map]
        go_upto_region 4 with fail
        go_cut [] from 21 to 28 (fun wx => KidCut W w3.heap.size #[.int .i64 un, .int .i64 ur, .string uk, .slice uAA uan uac, .slice uTA utn utc, .slice uA um uc] n r k AA an ac TA tn tc m (.node n r k tn (ks ++ [u])) wx)
        case first =>
          have hm0 := BoxN.made w3 #[.int .i64 n, .int .i64 r, .string k, .slice AA an ac, .slice TA tn tc, .slice A m c] 31
          have hx0 := HX3.out.alloc (.cells #[.int .i64 n, .int .i64 r, .string k, .slice AA an ac, .slice TA tn tc, .slice A m c] 31)
          have hy0 := HY3.out.alloc (.cells #[.int .i64 n, .int .i64 r, .string k, .slice AA an ac, .slice TA tn tc, .slice A m c] 31)
          have hd0 := H3.out.alloc H3.out.size (.cells #[.int .i64 n, .int .i64 r, .string k, .slice AA an ac, .slice TA tn tc, .slice A m c] 31)
          have hpl : w3.heap.size < (w3.alloc (.cells #[.int .i64 n, .int .i64 r, .string k, .slice AA an ac, .slice TA tn tc, .slice A m c] 31)).heap.size := by simp
          generalize w3.alloc (.cells #[.int .i64 n, .int .i64 r, .string k, .slice AA an ac, .slice TA tn tc, .slice A m c] 31) = wd at *
          have hxl : W.heap.size < wd.heap.size := hx0.lt
          have hyl : W.heap.size + 1 < wd.heap.size := hy0.lt
          have g1 : ¬ W.heap.size = wd.heap.size := by omega
          have g2 : ¬ W.heap.size = wd.heap.size + 1 := by omega
          have g3 : ¬ W.heap.size + 1 = wd.heap.size := by omega
          have g4 : ¬ W.heap.size + 1 = wd.heap.size + 1 := by omega
          have x5 : wd.cell? ⟨W.heap.size, 5, none⟩ = some (.slice A m c) := hx0.cell (j := 5) rfl
          have u0 : wd.cell? ⟨W.heap.size + 1, 0, none⟩ = some (.int .i64 un) := hy0.cell (j := 0) rfl
          have u1 : wd.cell? ⟨W.heap.size + 1, 1, none⟩ = some (.int .i64 ur) := hy0.cell (j := 1) rfl
          have u2 : wd.cell? ⟨W.heap.size + 1, 2, none⟩ = some (.string uk) := hy0.cell (j := 2) rfl
          have u3 : wd.cell? ⟨W.heap.size + 1, 3, none⟩ = some (.slice uAA uan uac) := hy0.cell (j := 3) rfl
          have u4 : wd.cell? ⟨W.heap.size + 1, 4, none⟩ = some (.slice uTA utn utc) := hy0.cell (j := 4) rfl
          have u5 : wd.cell? ⟨W.heap.size + 1, 5, none⟩ = some (.slice uA um uc) := hy0.cell (j := 5) rfl
          have HPW : Hid (W.heap.size + 1 < w3.heap.size) := Lib.hid HY3.out.lt
          have BM := Lib.hid hm0
          have BY := Lib.hid hy0
          have HD := Lib.hid hd0
          have HPL := Lib.hid hpl
          have HYL := Lib.hid hyl
          -- the three worlds in which the first append may run
          have ba := (Below.refl wd.heap.size wd.drew).alloc (Nat.le_refl _) (.cells #[] 31)
          have bb := ((Below.refl wd.heap.size wd.drew).alloc (Nat.le_refl _) (.cells #[.int .i64 un, .int .i64 ur, .string uk, .slice uAA uan uac, .slice uTA utn utc, .slice uA um uc] 31)).alloc (by simp) (.cells #[] 31)
          have bc := ((Below.refl wd.heap.size wd.drew).alloc (Nat.le_refl _) (.cells #[] 31)).alloc (by simp) (.cells #[.int .i64 un, .int .i64 ur, .string uk, .slice uAA uan uac, .slice uTA utn utc, .slice uA um uc] 31)
          have OEa := Lib.hid (own_empty wd.drew wd.heap.size 31 6 (Nat.le_refl _))
          have oeb : ((wd.drew.alloc (.cells #[.int .i64 un, .int .i64 ur, .string uk, .slice uAA uan uac, .slice uTA utn utc, .slice uA um uc] 31)).alloc (.cells #[] 31)).ownsRow wd.heap.size 31 6 (.slice (some ⟨wd.heap.size + 1, 0, none⟩) 0 0) 0 [] := by
            have h := own_empty (wd.drew.alloc (.cells #[.int .i64 un, .int .i64 ur, .string uk, .slice uAA uan uac, .slice uTA utn utc, .slice uA um uc] 31)) wd.heap.size 31 6 (by simp)
            rw [World.size_alloc] at h
            exact h
          have OEb := Lib.hid oeb
          clear oeb
          have OEc := Lib.hid ((own_empty wd.drew wd.heap.size 31 6 (Nat.le_refl _)).alloc (.cells #[.int .i64 un, .int .i64 ur, .string uk, .slice uAA uan uac, .slice uTA utn utc, .slice uA um uc] 31))
          have hz1 := zone hzn
          have hrd : Rd wd.drew W.heap.size 6 A m (zcells zs) := hzr.below hd0.drew
          have RA := Lib.hid (hrd.below (ba.mono (Nat.le_of_lt hxl)))
          have RB := Lib.hid (hrd.below (bb.mono (Nat.le_of_lt hxl)))
          have RC := Lib.hid (hrd.below (bc.mono (Nat.le_of_lt hxl)))
          have BA := Lib.hid ba
          have BB := Lib.hid bb
          have BC := Lib.hid bc
          have KB := Lib.hid ((BoxN.made wd.drew #[.int .i64 un, .int .i64 ur, .string uk, .slice uAA uan uac, .slice uTA utn utc, .slice uA um uc] 31).alloc (.cells #[] 31))
          have kc0 := BoxN.made (wd.drew.alloc (.cells #[] 31)) #[.int .i64 un, .int .i64 ur, .string uk, .slice uAA uan uac, .slice uTA utn utc, .slice uA um uc] 31
          rw [World.size_alloc] at kc0
          have KC := Lib.hid kc0
          have Z1 := Lib.hid hz1
          have U1 := Lib.hid HN2.out.one
          have HZL := Lib.hid hzl
          have HZT := Lib.hid hzt
          have HZN := Lib.hid hzn
          have HM3 := Lib.hid hm300
          clear hm0 hx0 hy0 hd0 hpl ba bb bc hz1 hrd hzl hzt hzn hzr kc0
          go_region_law (first
            | (refine step_app _ rfl (.tmp 24) (.tmp 26) 29 rfl wd.drew wd.heap.size 31 zNode 6 104 Try.underlying29 info31 rfl (by decide) _ _ _ rfl OK5.out _ _ 1 1 [.int .i64 un, .int .i64 ur, .string uk, .slice uAA uan uac, .slice uTA utn utc, .slice uA um uc] rfl RK5.out U1.out (by unfold maxLen; omega) (by omega) BK5.out (Nat.le_refl _) ?_; intro A6 c6 w6 hown6 hg6 hB6; have O6 := Lib.hid hown6; have B6 := Lib.hid hB6; have M6 := BM.out.below (w := wd.drew) hB6 HPL.out; have p5 : w6.cell? ⟨w3.heap.size, 5, none⟩ = some (.slice A m c) := M6.cell (j := 5) rfl; have p6 : w6.frozen? ⟨w3.heap.size, 5, none⟩ = false := M6.frozen; clear hown6 hg6 hB6)
            | (refine step_app _ rfl (.tmp 24) (.tmp 26) 29 rfl wd.drew wd.heap.size 31 zNode 6 104 Try.underlying29 info31 rfl (by decide) _ _ _ rfl O5.out _ _ 1 1 [.int .i64 un, .int .i64 ur, .string uk, .slice uAA uan uac, .slice uTA utn utc, .slice uA um uc] rfl R5.out U1.out (by unfold maxLen; omega) (by omega) B5.out (Nat.le_refl _) ?_; intro A6 c6 w6 hown6 hg6 hB6; have O6 := Lib.hid hown6; have B6 := Lib.hid hB6; have M6 := BM.out.below (w := wd.drew) hB6 HPL.out; have p5 : w6.cell? ⟨w3.heap.size, 5, none⟩ = some (.slice A m c) := M6.cell (j := 5) rfl; have p6 : w6.frozen? ⟨w3.heap.size, 5, none⟩ = false := M6.frozen; clear hown6 hg6 hB6)
            | (refine step_app _ rfl (.tmp 21) (.tmp 23) 29 rfl wd.drew wd.heap.size 31 zNode 6 104 Try.underlying29 info31 rfl (by decide) _ 0 [] rfl OEa.out _ A m c (zcells zs) rfl RA.out Z1.out (by unfold maxLen; omega) (by omega) BA.out (Nat.le_refl _) ?_; intro A5 c5 w5 hown5 hg5 hB5; rw [Nat.zero_add, List.nil_append] at hown5; have O5 := Lib.hid hown5; have B5 := Lib.hid hB5; have Y5 := BY.out.below (w := wd.drew) hB5 HYL.out; have v0 : w5.cell? ⟨W.heap.size + 1, 0, none⟩ = some (.int .i64 un) := Y5.cell (j := 0) rfl; have v1 : w5.cell? ⟨W.heap.size + 1, 1, none⟩ = some (.int .i64 ur) := Y5.cell (j := 1) rfl; have v2 : w5.cell? ⟨W.heap.size + 1, 2, none⟩ = some (.string uk) := Y5.cell (j := 2) rfl; have v3 : w5.cell? ⟨W.heap.size + 1, 3, none⟩ = some (.slice uAA uan uac) := Y5.cell (j := 3) rfl; have v4 : w5.cell? ⟨W.heap.size + 1, 4, none⟩ = some (.slice uTA utn utc) := Y5.cell (j := 4) rfl; have v5 : w5.cell? ⟨W.heap.size + 1, 5, none⟩ = some (.slice uA um uc) := Y5.cell (j := 5) rfl; have OK5 := Lib.hid (hown5.alloc (.cells #[.int .i64 un, .int .i64 ur, .string uk, .slice uAA uan uac, .slice uTA utn utc, .slice uA um uc] 31)); have RK5 := Lib.hid ((BoxN.made w5 #[.int .i64 un, .int .i64 ur, .string uk, .slice uAA uan uac, .slice uTA utn utc, .slice uA um uc] 31).rd6 rfl); have BK5 := Lib.hid (hB5.alloc hB5.size (.cells #[.int .i64 un, .int .i64 ur, .string uk, .slice uAA uan uac, .slice uTA utn utc, .slice uA um uc] 31)); clear hown5 hg5 hB5 Y5)
            | (refine step_app _ rfl (.tmp 21) (.tmp 23) 29 rfl wd.drew wd.heap.size 31 zNode 6 104 Try.underlying29 info31 rfl (by decide) (.slice (some ⟨wd.heap.size + 1, 0, none⟩) 0 0) 0 [] rfl OEb.out _ A m c (zcells zs) rfl RB.out Z1.out (by unfold maxLen; omega) (by omega) BB.out (Nat.le_refl _) ?_; intro A5 c5 w5 hown5 hg5 hB5; rw [Nat.zero_add, List.nil_append] at hown5; have O5 := Lib.hid hown5; have B5 := Lib.hid hB5; have R5 := Lib.hid (BoxN.rd6 (w := w5) (b := wd.heap.size) (vs := #[.int .i64 un, .int .i64 ur, .string uk, .slice uAA uan uac, .slice uTA utn utc, .slice uA um uc]) (t := 31) ((hg5.block _ (by simp; omega) (by simp [Value.ownBlock])).trans KB.out) rfl); clear hown5 hg5 hB5)
            | (refine step_app _ rfl (.tmp 21) (.tmp 23) 29 rfl wd.drew wd.heap.size 31 zNode 6 104 Try.underlying29 info31 rfl (by decide) (.slice (some ⟨wd.heap.size, 0, none⟩) 0 0) 0 [] rfl OEc.out _ A m c (zcells zs) rfl RC.out Z1.out (by unfold maxLen; omega) (by omega) BC.out (Nat.le_refl _) ?_; intro A5 c5 w5 hown5 hg5 hB5; rw [Nat.zero_add, List.nil_append] at hown5; have O5 := Lib.hid hown5; have B5 := Lib.hid hB5; have R5 := Lib.hid (BoxN.rd6 (w := w5) (b := wd.heap.size + 1) (vs := #[.int .i64 un, .int .i64 ur, .string uk, .slice uAA uan uac, .slice uTA utn utc, .slice uA um uc]) (t := 31) ((hg5.block _ (by simp) (by simp [Value.ownBlock])).trans KC.out) rfl); clear hown5 hg5 hB5)
            | go_simp)
          all_goals
            go_wp2_with fail
            go_meet
            exact kid_cut HD.out BY.out HYL.out HPL.out HPW.out O6.out B6.out M6 HZN.out HZT.out HZL.out HN2.out htn
        case rest =>
          obtain ⟨hWb, hkid, A9, c9, hmade, hNm⟩ := hcut
          obtain ⟨rr, hrr⟩ : ∃ rr, rightT (.node 0 0 sDoc 0 [u]) = rr := ⟨_, rfl⟩
          have e1 : rightT (Tree.node n r k tn (ks ++ [u])) = rr := by rw [← hrr]; exact HSN.out trivial
          have rm : ∀ w', Below wc.heap.size wc w' → Calls Try.prog 22 #[.agg #[.int .i64 n, .int .i64 r, .string k, .slice AA an ac, .slice TA tn tc, .slice A9 (m + 1) c9]] w' fun e w'' => e = .returned (.bool rr) ∧ Below w'.heap.size w' w'' := fun w' hb => by
            have := gright_any (hNm.beneath hb) hb.size
            rw [e1] at this
            exact this
          have rk : ∀ w' b, Below wc.heap.size wc w' → BoxN w' b #[.int .i64 un, .int .i64 ur, .string uk, .slice uAA uan uac, .slice uTA utn utc, .slice uA um uc] 31 → Calls Try.prog 22 #[.agg #[.int .i64 0, .int .i64 0, .string sDoc, .slice none 0 0, .slice none 0 0, .slice (some ⟨b, 0, none⟩) 1 1]] w' fun e w'' => e = .returned (.bool rr) ∧ Below w'.heap.size w' w'' := fun w' b hb hx => by
            have hu : Nd w' w'.heap.size [.int .i64 un, .int .i64 ur, .string uk, .slice uAA uan uac, .slice uTA utn utc, .slice uA um uc] u := HN2.out.keep (Nat.le_trans hWb.size hb.size) fun p hp => (hWb.trans (hb.mono hWb.size)).cell hp
            have := gright_any (Nd.of_list 0 0 sDoc none 0 0 none 0 0 b 1 _ u hu hx.lt (fun j x hj => hx.cell (by simpa using hj)) (Nat.le_refl _) (by omega) (by omega)) (Nat.le_refl _)
            rw [hrr] at this
            exact this
          have RM := Lib.hid rm
          have RK := Lib.hid rk
          have HWB := Lib.hid hWb
          have HKB := Lib.hid hkid
          have HMB := Lib.hid hmade
          have HLW : Hid (W.heap.size + 1 < wc.heap.size) := Lib.hid hkid.lt
          have HLM : Hid (w3.heap.size < wc.heap.size) := Lib.hid hmade.lt
          obtain ⟨pm, hpm⟩ : ∃ pm, w3.heap.size = pm := ⟨_, rfl⟩
          rw [hpm] at HMB HLM
          have HPM := Lib.hid hpm
          have hB := Below.refl wc.heap.size wc
          have heq : (rr == rr) = true := by simp
          clear hWb hkid hmade hNm hrr e1 rm rk n0 n1 n2 n3 n4 n5 hzt hzn hzr hzl HSN hpm H3 HX3 HY3 HK HKK HM HN2 HNK HCN
          go_wp2_with fail
          simp only [HPM.out]
          go_region_with (first
            | ((with_reducible go_at_call 14); refine (alive_any _).mono ?_; rintro e w6 ⟨rfl, hB6⟩
               replace hB := hB.drew.trans (hB6.mono hB.size)
               have hM6 := HMB.out.below hB HLM.out
               have hU6 := HKB.out.below hB HLW.out
               have x0 : w6.cell? ⟨pm, 0, none⟩ = some (.int .i64 n) := hM6.cell (j := 0) rfl
               have x1 : w6.cell? ⟨pm, 1, none⟩ = some (.int .i64 r) := hM6.cell (j := 1) rfl
               have x2 : w6.cell? ⟨pm, 2, none⟩ = some (.string k) := hM6.cell (j := 2) rfl
               have x3 : w6.cell? ⟨pm, 3, none⟩ = some (.slice AA an ac) := hM6.cell (j := 3) rfl
               have x4 : w6.cell? ⟨pm, 4, none⟩ = some (.slice TA tn tc) := hM6.cell (j := 4) rfl
               have x5 : w6.cell? ⟨pm, 5, none⟩ = some (.slice A9 (m + 1) c9) := hM6.cell (j := 5) rfl
               have y0 : w6.cell? ⟨W.heap.size + 1, 0, none⟩ = some (.int .i64 un) := hU6.cell (j := 0) rfl
               have y1 : w6.cell? ⟨W.heap.size + 1, 1, none⟩ = some (.int .i64 ur) := hU6.cell (j := 1) rfl
               have y2 : w6.cell? ⟨W.heap.size + 1, 2, none⟩ = some (.string uk) := hU6.cell (j := 2) rfl
               have y3 : w6.cell? ⟨W.heap.size + 1, 3, none⟩ = some (.slice uAA uan uac) := hU6.cell (j := 3) rfl
               have y4 : w6.cell? ⟨W.heap.size + 1, 4, none⟩ = some (.slice uTA utn utc) := hU6.cell (j := 4) rfl
               have y5 : w6.cell? ⟨W.heap.size + 1, 5, none⟩ = some (.slice uA um uc) := hU6.cell (j := 5) rfl
               have xa0 : (w6.alloc (.cells #[.int .i64 un, .int .i64 ur, .string uk, .slice uAA uan uac, .slice uTA utn utc, .slice uA um uc] 31)).cell? ⟨pm, 0, none⟩ = some (.int .i64 n) := (hM6.alloc _).cell (j := 0) rfl
               have xa1 : (w6.alloc (.cells #[.int .i64 un, .int .i64 ur, .string uk, .slice uAA uan uac, .slice uTA utn utc, .slice uA um uc] 31)).cell? ⟨pm, 1, none⟩ = some (.int .i64 r) := (hM6.alloc _).cell (j := 1) rfl
               have xa2 : (w6.alloc (.cells #[.int .i64 un, .int .i64 ur, .string uk, .slice uAA uan uac, .slice uTA utn utc, .slice uA um uc] 31)).cell? ⟨pm, 2, none⟩ = some (.string k) := (hM6.alloc _).cell (j := 2) rfl
               have xa3 : (w6.alloc (.cells #[.int .i64 un, .int .i64 ur, .string uk, .slice uAA uan uac, .slice uTA utn utc, .slice uA um uc] 31)).cell? ⟨pm, 3, none⟩ = some (.slice AA an ac) := (hM6.alloc _).cell (j := 3) rfl
               have xa4 : (w6.alloc (.cells #[.int .i64 un, .int .i64 ur, .string uk, .slice uAA uan uac, .slice uTA utn utc, .slice uA um uc] 31)).cell? ⟨pm, 4, none⟩ = some (.slice TA tn tc) := (hM6.alloc _).cell (j := 4) rfl
               have xa5 : (w6.alloc (.cells #[.int .i64 un, .int .i64 ur, .string uk, .slice uAA uan uac, .slice uTA utn utc, .slice uA um uc] 31)).cell? ⟨pm, 5, none⟩ = some (.slice A9 (m + 1) c9) := (hM6.alloc _).cell (j := 5) rfl
               clear hB6 hM6 hU6)
            | (go_at_call 22; (with_reducible refine (RM.out _ ?_).mono ?_); first | exact hB | exact hB.alloc hB.size _
               rintro e w7 ⟨rfl, hB7⟩
               try (have hbx := (BoxN.made _ _ _).below hB7 (by simp))
               first | replace hB := hB.trans (hB7.mono hB.size) | replace hB := (hB.alloc hB.size _).trans (hB7.mono (hB.alloc hB.size _).size)
               have hU7 := HKB.out.below hB HLW.out
               have z0 : w7.cell? ⟨W.heap.size + 1, 0, none⟩ = some (.int .i64 un) := hU7.cell (j := 0) rfl
               have z1 : w7.cell? ⟨W.heap.size + 1, 1, none⟩ = some (.int .i64 ur) := hU7.cell (j := 1) rfl
               have z2 : w7.cell? ⟨W.heap.size + 1, 2, none⟩ = some (.string uk) := hU7.cell (j := 2) rfl
               have z3 : w7.cell? ⟨W.heap.size + 1, 3, none⟩ = some (.slice uAA uan uac) := hU7.cell (j := 3) rfl
               have z4 : w7.cell? ⟨W.heap.size + 1, 4, none⟩ = some (.slice uTA utn utc) := hU7.cell (j := 4) rfl
               have z5 : w7.cell? ⟨W.heap.size + 1, 5, none⟩ = some (.slice uA um uc) := hU7.cell (j := 5) rfl
               clear hB7 hU7)
            | (go_at_call 22; (with_reducible refine (RK.out _ _ ?_ ?_).mono ?_); first | exact hB | exact hB.alloc hB.size _
               first | exact hbx | exact BoxN.made _ _ _
               rintro e w8 ⟨rfl, hB8⟩
               first | replace hB := hB.trans (hB8.mono hB.size) | replace hB := (hB.alloc hB.size _).trans (hB8.mono (hB.alloc hB.size _).size)
               have hM8 := HMB.out.below hB HLM.out
               have v0 : w8.cell? ⟨pm, 0, none⟩ = some (.int .i64 n) := hM8.cell (j := 0) rfl
               have v1 : w8.cell? ⟨pm, 1, none⟩ = some (.int .i64 r) := hM8.cell (j := 1) rfl
               have v2 : w8.cell? ⟨pm, 2, none⟩ = some (.string k) := hM8.cell (j := 2) rfl
               have v3 : w8.cell? ⟨pm, 3, none⟩ = some (.slice AA an ac) := hM8.cell (j := 3) rfl
               have v4 : w8.cell? ⟨pm, 4, none⟩ = some (.slice TA tn tc) := hM8.cell (j := 4) rfl
               have v5 : w8.cell? ⟨pm, 5, none⟩ = some (.slice A9 (m + 1) c9) := hM8.cell (j := 5) rfl
               clear hB8 hM8))
          all_goals
            go_wp2_with fail
            go_ret
            exact ⟨rfl, HWB.out.trans (hB.mono HWB.out.size)⟩
end Go.Proofs.Ytcdhndhgainadaa.grammarKid
