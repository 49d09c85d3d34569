/-
  The contract of Bools of package column.
-/
import Derived.Test.YtokpcpopibpebaaIterB
import Derived.Test.YtokpcpopibpebaaRunsF
namespace Go.Proofs.Ytokpcpopibpebaa
open Go Go.RowKit Go.Shelf
set_option linter.unusedVariables false
set_option linter.unusedSimpArgs false
attribute [local go_sem] Oper.semAt_some

theorem bruns_stops (n : Nat) (hn : 1 ≤ n) (Bl n₀ : Nat) (A : Option Addr) (len cap : Nat) (zs : List Bool) (hcap : len ≤ cap) (hmax : cap ≤ maxLen) (w : World) (hn₀ : n₀ ≤ w.heap.size) (hBl : Boxed w Bl 39 (.slice A len cap)) (hlo : n₀ ≤ Bl) (hR : Rd w n₀ 1 A len (bls zs)) :
    SeqOwns n Try.prog 47 #[.pointer (some ⟨Bl, 0, none⟩)] (fun x : Nat × Bool => #[.int .i64 (x.1 : Int), .bool x.2]) n₀ (runs zs) (fun k => k = Bl) w := fun l J Jx W hW hJ hY h0 =>
  bruns1_in n hn l Bl n₀ A len cap zs hcap hmax J Jx hJ hY W ((hW.block _ hBl.lt).trans hBl) (hR.below (hW.mono hn₀)) (fun k => k = Bl) rfl (fun k hk => by subst hk; exact hlo) h0

/-- the counts of runs of truths -/
def cntsR (ps : List (Nat × Bool)) : List Nat := (if ps.head?.map (·.2) = some true then [0] else []) ++ ps.map (·.1)
theorem cntsR_runs (l : List Bool) : cntsR (runs l) = cntsV false l := by
  unfold cntsR cntsV
  have : (runs l).head?.map (·.2) = l.head? := by
    cases l with
    | nil => rw [runs_nil]; rfl
    | cons x t => rw [runs_cons]; rfl
  rw [this]; rfl
theorem cntsR_snoc {ps : List (Nat × Bool)} (h : ps ≠ []) (p : Nat × Bool) : cntsR (ps ++ [p]) = cntsR ps ++ [p.1] := by
  unfold cntsR
  have : (ps ++ [p]).head? = ps.head? := by cases ps with | nil => exact absurd rfl h | cons x t => rfl
  rw [this]; simp
theorem puts_snoc (ks : List Nat) (k : Nat) : puts (ks ++ [k]) = puts ks ++ V.put k := by rw [puts_append]; simp [puts]
theorem puts_len : ∀ (ks : List Nat), (∀ k ∈ ks, k < 18446744073709551616) → ks.length ≤ (puts ks).length ∧ (puts ks).length ≤ 10 * ks.length
  | [], _ => by simp [puts]
  | k :: ks, h => by
    have h1 := V.put_length_ten (h k (by simp))
    have h2 := V.put_length_pos k
    have := puts_len ks (fun j hj => h j (List.mem_cons_of_mem _ hj))
    rw [puts_cons, List.length_append, List.length_cons]
    omega
theorem runsB_all {l : List Bool} (hl : l.length < 18446744073709551616) : ∀ p ∈ runs l, 1 ≤ p.1 ∧ p.1 < 18446744073709551616 := fun p hp => by
  obtain ⟨h1, h2, _⟩ := runs_mem hp
  exact ⟨h1, by omega⟩
theorem cntsR_lt {ps : List (Nat × Bool)} (h : ∀ p ∈ ps, p.1 < 18446744073709551616) : ∀ k ∈ cntsR ps, k < 18446744073709551616 := by
  intro k hk
  unfold cntsR at hk
  rcases List.mem_append.1 hk with hk | hk
  · split at hk
    · simp at hk; omega
    · cases hk
  · obtain ⟨p, hp, rfl⟩ := List.mem_map.1 hk
    exact h p hp
theorem cntsR_len (ps : List (Nat × Bool)) : ps.length ≤ (cntsR ps).length ∧ (cntsR ps).length ≤ ps.length + 1 := by
  unfold cntsR
  rw [List.length_append, List.length_map]
  split <;> simp <;> omega

set_option maxRecDepth 100000 in
set_option maxHeartbeats 2000000 in
theorem bools_any (A : Option Addr) (len cap : Nat) (zs : List Bool) (hlen : len ≤ 65536) (hcap : len ≤ cap) (hmax : cap ≤ maxLen) (w : World) (hR : Rd w w.heap.size 1 A len (bls zs)) :
    Calls Try.prog 31 #[.slice A len cap] w (Made8 (boolBytes zs) w) := by
  refine (callsIn_wide (n := 6)).1 ?_
  have hzl : zs.length = len := by have := hR.len1; rwa [bls_len] at this
  have hrl := runs_len zs
  have HA := Lib.hid (runsB_all (l := zs) (by omega))
  have HLR := Lib.hid hrl
  have HZL := Lib.hid hzl
  refine callsIn_of_wp_marks Try.func31 rfl trivial ?_ rfl
  simp only [Try.ntmps31, List.size_toArray, List.length_cons, List.length_nil, Nat.reduceAdd, Nat.reduceSub, Array.replicate_succ, Array.replicate_zero, List.push_toArray, List.append_toArray, List.nil_append, List.cons_append]
  gi_wp2_with fail
  refine ⟨trivial, ?_⟩
  refine (bmk_any 5 _ _ _ _).mono ?_
  rintro e w' ⟨rfl, rfl⟩
  have bO := Boxed.new w 24 (.slice none 0 0)
  have bN := Boxed.new (w.alloc (.cells #[.slice none 0 0] 24)) 39 (.slice A len cap)
  rw [World.size_alloc] at bN
  have hB0 : Below w.heap.size w ((w.alloc (.cells #[.slice none 0 0] 24)).alloc (.cells #[.slice A len cap] 39)) := ((Below.refl _ w).alloc (Nat.le_refl _) _).alloc (by simp) _
  gi_wp2_with fail
  refine wpIn_rangeFunc_T (n := 6) (by omega) (gf := 47) (lb := #[.pointer (some ⟨w.heap.size + 1, 0, none⟩)]) rfl (enters_of Try.func47 (by kernel_rfl) rfl)
    (bruns_stops 5 (by omega) (w.heap.size + 1) w.heap.size A len cap zs hcap hmax _ (by simp; omega) bN (by omega) (hR.below hB0)) (by simp; omega) (Below.refl _ _) (fun k hk => by simp; omega) (fun _ => rfl)
    (fun pre T W => Coll T W w.heap.size w.heap.size 24 5 1 (puts (cntsR pre)).length (by8 (puts (cntsR pre))) ∧ Below w.heap.size w W ∧ ∀ k, T k → w.heap.size ≤ k)
    (fun _ _ _ _ => False)
    (AbidesT.and (Coll.abides w.heap.size w.heap.size 24 5 1 (fun pre => (puts (cntsR pre)).length) (fun pre => by8 (puts (cntsR pre)))) (abides_below w.heap.size w (Nat.le_refl _)))
    (fun _ _ _ _ _ _ hs _ _ => hs)
    ⟨⟨_, bO.alloc _, by omega, World.ownsRow_nil _ _ _ _, by simp [Value.ownBlock]⟩, hB0, fun k hk => by omega⟩
    (fun x a' T W => a' = { tmps := #[.slice A len cap, undef, .slice none 0 0, .pointer (some ⟨w.heap.size, 0, none⟩), .int .i64 (x.1 : Int), .bool x.2, .slice A len cap, .func (.func 47) #[] #[.pointer (some ⟨w.heap.size + 1, 0, none⟩)], .int .i64 (x.1 : Int), .bool x.2, undef, undef, undef, undef, undef, undef, undef, undef, undef, undef, undef, undef, undef, undef, undef], defers := [] })
    ?hAx ?assign ?body ?done ?stop
  case hAx =>
    rintro x a' _ T T' W W' rfl hm ht
    rfl
  case assign =>
    rintro l pre T x W K ⟨hC, hB, hT⟩ hTl _ _ hK
    gi_wp2
    exact hK _ _ (KeepsT.refl T W) (Below.refl _ W) ⟨hC, hB, hT⟩ rfl
  case body =>
    rintro l pre T ⟨k, x⟩ a' W ⟨⟨v, hv, hnB, hrow, hng⟩, hB, hT⟩ hTl rfl hpre hn
    have hmem : (k, x) ∈ runs zs := hpre.mem (by simp)
    obtain ⟨hk1, hk2⟩ := HA.out _ hmem
    simp only at hk1 hk2
    have hlp : (pre ++ [(k, x)]).length ≤ len := by have := hpre.length_le; omega
    have hpb := puts_len (cntsR (pre ++ [(k, x)])) (cntsR_lt fun p hp => (HA.out p (hpre.mem hp)).2)
    have hpc := puts_len (cntsR pre) (cntsR_lt fun p hp => (HA.out p (hpre.mem (by simp [hp]))).2)
    have hcl := cntsR_len (pre ++ [(k, x)])
    have hcl2 := cntsR_len pre
    have hp10 := V.put_length_ten hk2
    have hwk : IntKind.u64.wrap (k : Int) = (k : Int) := u64_wrap_of _ (by omega) (by omega)
    obtain ⟨Av, cv, rfl, _, _⟩ := own_slice hrow
    have hC := Lib.hid (CollAt.start hv hnB hrow hng hTl hn (Nat.le_refl _))
    have HB := Lib.hid hB
    have HT := Lib.hid hT
    have HN := Lib.hid hn
    have HP1 := Lib.hid (fun W => put_any k W hk2)
    have hc := hv.cell
    simp only [List.length_append, List.length_cons, List.length_nil] at hlp hcl
    have HL1 : Hid ((puts (cntsR pre)).length + 1 + (V.put k).length ≤ 1310720) := Lib.hid (by omega)
    by_cases hp : pre = []
    · subst hp
      cases x with
      | false =>
        have HZB : Hid (puts (cntsR [(k, false)]) = puts (cntsR []) ++ V.put k) := Lib.hid (by simp [cntsR, puts])
        clear hv hnB hrow hng hB hT hpre hmem hk2 hlp hpb hpc hcl hcl2 hn
        gi_wp2_with fail
        refine region_toRound (by kernel_rfl) (block_out post_out) (by kernel_rfl) ?_
        refine any_take (i := 1) (v := .int .i64 (k : Int)) rfl rfl (by kernel_rfl) (by kernel_rfl) (by kernel_rfl) (fun _ _ _ h => h) (fun _ => by go_simp) ?_
        simp only [Act.put, List.setIfInBounds_toArray, List.set_cons_succ, List.set_cons_zero, List.getElem_toArray, List.getElem_cons_succ, List.getElem_cons_zero]
        refine any_take (i := 2) (v := .int .u64 (k : Int)) rfl rfl (by kernel_rfl) (by kernel_rfl) (by kernel_rfl) (fun _ _ _ h => h) (fun _ => by go_simp) ?_
        simp only [Act.put, List.setIfInBounds_toArray, List.set_cons_succ, List.set_cons_zero, List.getElem_toArray, List.getElem_cons_succ, List.getElem_cons_zero]
        refine any_load_call (i := 0) (j := 3) (v := .slice Av (puts (cntsR [])).length cv) (by kernel_rfl) (by kernel_rfl) (by kernel_rfl) (by decide) rfl rfl rfl rfl (by simp) rfl (enters_of Try.func17 (by kernel_rfl) rfl) [.int .u64 (k : Int)] rfl rfl (by kernel_rfl) (by kernel_rfl) (HP1.out _) (by go_simp) ?_
        rintro e w1 ⟨A1, c1, rfl, own1, hB1⟩
        have C1 := hC.out.drew.next hB1
        have hc1 := C1.box.cell
        refine ⟨_, rfl, by go_simp, ?_⟩
        simp only [Act.put, List.setIfInBounds_toArray, List.set_cons_succ, List.set_cons_zero, List.getElem_toArray, List.getElem_cons_succ, List.getElem_cons_zero]
        refine any_one (i := 4) (by kernel_rfl) rfl rfl (wp_app (.tmp 19) (.tmp 22) 24 rfl w.heap.size 5 (.int .u8 0) 1 1 Try.underlying24 info5 rfl (by decide) _ _ _ rfl C1.row w1.heap.size A1 _ c1 (by8 (V.put k)) rfl (Rd.of_own own1) (by8_one' _) (by have := HL1.out; unfold maxLen; omega) (by have := HL1.out; omega) (Nat.le_trans C1.base C1.below.size) ?_)
        intro A2 c2 w2 own2 hg2 hat2
        rw [← by8_append] at own2
        have C2 := C1.app (by decide) own2 hg2 hat2
        simp only [Act.put, List.setIfInBounds_toArray, List.set_cons_succ, List.set_cons_zero, List.getElem_toArray, List.getElem_cons_succ, List.getElem_cons_zero]
        obtain ⟨d1, d2, d3⟩ := C2.done (by decide)
        have hc5 := C2.box.cell
        have hf5 := C2.box.frozen
        refine any_one (i := 5) (by kernel_rfl) rfl rfl ?_
        simp only [List.getElem_toArray, List.getElem_cons_succ, List.getElem_cons_zero]
        go_simp
        refine wpAny_done (by kernel_rfl) ?_ _
        refine ⟨d1, d2, ?_, HB.out.trans d2, HT.out⟩
        show Coll T _ _ _ _ _ _ (puts (cntsR [(k, false)])).length (by8 (puts (cntsR [(k, false)])))
        rw [HZB.out, List.length_append]
        exact d3
      | true =>
        have HZB : Hid (puts (cntsR [(k, true)]) = [0] ++ V.put k) := Lib.hid (by simp [cntsR, puts, V.put_lt])
        have e0 : (puts (cntsR [])).length = 0 := rfl
        have e1 : by8 (puts (cntsR [])) = [] := rfl
        rw [e0, e1] at hC
        rw [e0] at hc
        have hn2 := hn
        clear hv hnB hrow hng hB hT hpre hmem hk2 hlp hpb hpc hcl hcl2 e0 e1
        gi_wp2_with (gi_at_builtin; refine wpListIn_app _ rfl (.tmp 16) (.tmp 17) 24 rfl w.heap.size 5 (.int .u8 0) 1 1 Try.underlying24 info5 rfl (by decide) (.slice Av 0 cv) 0 [] rfl (hC.out.alloc (.cells #[.int .u8 0] 5)).row (W.heap.size + 1) (some ⟨W.heap.size, 0, none⟩) 1 1 [.int .u8 0] rfl (rd_alloc W #[.int .u8 0] 5 (0, 0) 1 1 rfl) (by8_one' [0]) (by unfold maxLen; omega) (by omega) (by simp; omega) ?_)
        intro A0 c0 w0 own0 hg0 hat0
        have own0' : w0.ownsRow w.heap.size 5 1 (.slice A0 1 c0) 1 (by8 [0]) := own0
        have C0 := (hC.out.alloc (.cells #[.int .u8 0] 5)).app (by decide) own0' hg0 (fun g hg => by rw [World.size_alloc]; exact hat0 g hg)
        obtain ⟨f1, f2, v0, hv0, hnB0, hrow0, hng0⟩ := C0.done (by decide)
        have hc0 := C0.box.cell
        have hf0 := C0.box.frozen
        have hc0' := hv0.cell
        have hsz : W.heap.size ≤ (w0.setCell ⟨w.heap.size, 0, none⟩ (.slice A0 1 c0)).heap.size := f1.size
        have hCc : v0 = .slice A0 1 c0 := by
          have h1 := (C0.box.set (.slice A0 1 c0)).cell
          rw [hc0'] at h1
          injection h1
        subst hCc
        have HCC := Lib.hid (CollAt.start hv0 hnB0 hrow0 hng0 (fun j hj => Nat.lt_of_lt_of_le (hTl j hj) hsz) (Nat.le_trans HN.out hsz) (Nat.le_refl _))
        have F1 := Lib.hid f1
        have F2 := Lib.hid f2
        clear own0 own0' hg0 hat0 C0 f1 f2 hv0 hnB0 hrow0 hng0 hsz hn2
        gi_wp2_with fail
        refine region_toRound (by kernel_rfl) (block_out post_out) (by kernel_rfl) ?_
        refine any_take (i := 1) (v := .int .i64 (k : Int)) rfl rfl (by kernel_rfl) (by kernel_rfl) (by kernel_rfl) (fun _ _ _ h => h) (fun _ => by go_simp) ?_
        simp only [Act.put, List.setIfInBounds_toArray, List.set_cons_succ, List.set_cons_zero, List.getElem_toArray, List.getElem_cons_succ, List.getElem_cons_zero]
        refine any_take (i := 2) (v := .int .u64 (k : Int)) rfl rfl (by kernel_rfl) (by kernel_rfl) (by kernel_rfl) (fun _ _ _ h => h) (fun _ => by go_simp) ?_
        simp only [Act.put, List.setIfInBounds_toArray, List.set_cons_succ, List.set_cons_zero, List.getElem_toArray, List.getElem_cons_succ, List.getElem_cons_zero]
        refine any_load_call (i := 0) (j := 3) (v := .slice A0 1 c0) (by kernel_rfl) (by kernel_rfl) (by kernel_rfl) (by decide) rfl rfl rfl rfl (by simp) rfl (enters_of Try.func17 (by kernel_rfl) rfl) [.int .u64 (k : Int)] rfl rfl (by kernel_rfl) (by kernel_rfl) (HP1.out _) (by go_simp) ?_
        rintro e w1 ⟨A1, c1, rfl, own1, hB1⟩
        have C1 := HCC.out.drew.next hB1
        have hc1 := C1.box.cell
        refine ⟨_, rfl, by go_simp, ?_⟩
        simp only [Act.put, List.setIfInBounds_toArray, List.set_cons_succ, List.set_cons_zero, List.getElem_toArray, List.getElem_cons_succ, List.getElem_cons_zero]
        refine any_one (i := 4) (by kernel_rfl) rfl rfl (wp_app (.tmp 19) (.tmp 22) 24 rfl w.heap.size 5 (.int .u8 0) 1 1 Try.underlying24 info5 rfl (by decide) _ _ _ rfl C1.row w1.heap.size A1 _ c1 (by8 (V.put k)) rfl (Rd.of_own own1) (by8_one' _) (by have := HL1.out; unfold maxLen; omega) (by have := HL1.out; omega) (Nat.le_trans C1.base C1.below.size) ?_)
        intro A2 c2 w2 own2 hg2 hat2
        rw [← by8_append] at own2
        have C2 := C1.app (by decide) own2 hg2 hat2
        simp only [Act.put, List.setIfInBounds_toArray, List.set_cons_succ, List.set_cons_zero, List.getElem_toArray, List.getElem_cons_succ, List.getElem_cons_zero]
        obtain ⟨d1, d2, d3⟩ := C2.done (by decide)
        have hc5 := C2.box.cell
        have hf5 := C2.box.frozen
        refine any_one (i := 5) (by kernel_rfl) rfl rfl ?_
        simp only [List.getElem_toArray, List.getElem_cons_succ, List.getElem_cons_zero]
        go_simp
        refine wpAny_done (by kernel_rfl) ?_ _
        refine ⟨F1.out.trans d1, F2.out.trans d2, ?_, (HB.out.trans F2.out).trans d2, HT.out⟩
        show Coll T _ _ _ _ _ _ (puts (cntsR [(k, true)])).length (by8 (puts (cntsR [(k, true)])))
        rw [HZB.out, List.length_append]
        exact d3
    · have HZB : Hid (puts (cntsR (pre ++ [(k, x)])) = puts (cntsR pre) ++ V.put k) := Lib.hid (by rw [cntsR_snoc hp, puts_snoc])
      have hpl : 1 ≤ pre.length := by cases pre with | nil => exact absurd rfl hp | cons _ _ => simp
      have hne : (((puts (cntsR pre)).length : Int) == 0) = false := by simpa using (by omega : ¬ ((puts (cntsR pre)).length : Int) = 0)
      clear hv hnB hrow hng hB hT hpre hmem hk2 hlp hpb hpc hcl hcl2 hp hn hpl
      cases x
      all_goals
        gi_wp2_with fail
        refine region_toRound (by kernel_rfl) (block_out post_out) (by kernel_rfl) ?_
        refine any_take (i := 1) (v := .int .i64 (k : Int)) rfl rfl (by kernel_rfl) (by kernel_rfl) (by kernel_rfl) (fun _ _ _ h => h) (fun _ => by go_simp) ?_
        simp only [Act.put, List.setIfInBounds_toArray, List.set_cons_succ, List.set_cons_zero, List.getElem_toArray, List.getElem_cons_succ, List.getElem_cons_zero]
        refine any_take (i := 2) (v := .int .u64 (k : Int)) rfl rfl (by kernel_rfl) (by kernel_rfl) (by kernel_rfl) (fun _ _ _ h => h) (fun _ => by go_simp) ?_
        simp only [Act.put, List.setIfInBounds_toArray, List.set_cons_succ, List.set_cons_zero, List.getElem_toArray, List.getElem_cons_succ, List.getElem_cons_zero]
        refine any_load_call (i := 0) (j := 3) (v := .slice Av (puts (cntsR pre)).length cv) (by kernel_rfl) (by kernel_rfl) (by kernel_rfl) (by decide) rfl rfl rfl rfl (by simp) rfl (enters_of Try.func17 (by kernel_rfl) rfl) [.int .u64 (k : Int)] rfl rfl (by kernel_rfl) (by kernel_rfl) (HP1.out _) (by go_simp) ?_
        rintro e w1 ⟨A1, c1, rfl, own1, hB1⟩
        have C1 := hC.out.drew.next hB1
        have hc1 := C1.box.cell
        refine ⟨_, rfl, by go_simp, ?_⟩
        simp only [Act.put, List.setIfInBounds_toArray, List.set_cons_succ, List.set_cons_zero, List.getElem_toArray, List.getElem_cons_succ, List.getElem_cons_zero]
        refine any_one (i := 4) (by kernel_rfl) rfl rfl (wp_app (.tmp 19) (.tmp 22) 24 rfl w.heap.size 5 (.int .u8 0) 1 1 Try.underlying24 info5 rfl (by decide) _ _ _ rfl C1.row w1.heap.size A1 _ c1 (by8 (V.put k)) rfl (Rd.of_own own1) (by8_one' _) (by have := HL1.out; unfold maxLen; omega) (by have := HL1.out; omega) (Nat.le_trans C1.base C1.below.size) ?_)
        intro A2 c2 w2 own2 hg2 hat2
        rw [← by8_append] at own2
        have C2 := C1.app (by decide) own2 hg2 hat2
        simp only [Act.put, List.setIfInBounds_toArray, List.set_cons_succ, List.set_cons_zero, List.getElem_toArray, List.getElem_cons_succ, List.getElem_cons_zero]
        obtain ⟨d1, d2, d3⟩ := C2.done (by decide)
        have hc5 := C2.box.cell
        have hf5 := C2.box.frozen
        refine any_one (i := 5) (by kernel_rfl) rfl rfl ?_
        simp only [List.getElem_toArray, List.getElem_cons_succ, List.getElem_cons_zero]
        go_simp
        refine wpAny_done (by kernel_rfl) ?_ _
        refine ⟨d1, d2, ?_, HB.out.trans d2, HT.out⟩
        rw [HZB.out, List.length_append]
        exact d3
  case done =>
    rintro D T W hD hTD ⟨⟨v, hv, hnB, hrow, hng⟩, hB, hT⟩ hK
    rw [cntsR_runs] at hrow
    have hc := hv.cell
    gi_wp2
    refine ⟨by simp, .inl ⟨_, _, rfl, run_takeDeferred hK, ?_⟩⟩
    obtain ⟨Av, cv, rfl, _, _⟩ := own_slice hrow
    exact ⟨_, results_tmp rfl _ _ _, Av, cv, rfl, ownsRow_putObj hrow _ hK rfl, hB.trans (belowK_b (w := w) (Nat.le_refl _) W D _ _ (by simp at hD; omega) hK rfl rfl)⟩
  case stop =>
    rintro D c pre T W _ _ _ h _
    exact h.elim
end Go.Proofs.Ytokpcpopibpebaa
