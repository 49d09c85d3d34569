/-
  The contract of Runs of package column.
-/
import Derived.Test.YtokpcpopibpebaaIterI
import Derived.Test.YtokpcpopibpebaaCollAt
import Derived.Test.YtokpcpopibpebaaColPlain2
import Derived.Test.YtokpcpopibpebaaPut
import Derived.Test.YtokpcpopibpebaaZig
import Derived.Test.YtokpcpopibpebaaSame
namespace Go.Proofs.Ytokpcpopibpebaa
open Go Go.RowKit Go.Shelf
set_option linter.unusedVariables false
set_option linter.unusedSimpArgs false
attribute [local go_sem] Oper.semAt_some

theorem iruns_stops (n : Nat) (hn : 1 ≤ n) (Bl n₀ : Nat) (A : Option Addr) (len cap : Nat) (zs : List Int) (hcap : len ≤ cap) (hmax : cap ≤ maxLen) (w : World) (hn₀ : n₀ ≤ w.heap.size) (hBl : Boxed w Bl 38 (.slice A len cap)) (hlo : n₀ ≤ Bl) (hR : Rd w n₀ 1 A len (i64s zs)) :
    SeqOwns n Try.prog 46 #[.pointer (some ⟨Bl, 0, none⟩)] (fun x : Nat × Int => #[.int .i64 (x.1 : Int), .int .i64 x.2]) n₀ (runs zs) (fun k => k = Bl) w := fun l J Jx W hW hJ hY h0 =>
  iruns1_in n hn l Bl n₀ A len cap zs hcap hmax J Jx hJ hY W ((hW.block _ hBl.lt).trans hBl) (hR.below (hW.mono hn₀)) (fun k => k = Bl) rfl (fun k hk => by subst hk; exact hlo) h0

theorem by8_one' (l : List Nat) : ∀ u ∈ by8 l, u.oneCell' = true := by
  intro u hu
  simp only [by8, List.mem_map] at hu
  obtain ⟨x, _, rfl⟩ := hu
  rfl
theorem runsBytes_len : ∀ rs : List (Nat × Int), (∀ p ∈ rs, p.1 < 18446744073709551616 ∧ InI p.2) → (runsBytes rs).length ≤ 20 * rs.length
  | [], _ => by simp [runsBytes]
  | p :: rs, h => by
    have h1 := h p (by simp)
    have := runBytes_len p h1.1 (zig_nat h1.2).2
    have := runsBytes_len rs (fun q hq => h q (List.mem_cons_of_mem _ hq))
    rw [runsBytes_cons, List.length_append, List.length_cons]
    omega

set_option maxRecDepth 100000 in
set_option maxHeartbeats 2000000 in
theorem runs_any (A : Option Addr) (len cap : Nat) (zs : List Int) (hlen : len ≤ 65536) (hcap : len ≤ cap) (hmax : cap ≤ maxLen) (hz : ∀ x ∈ zs, InI x) (w : World) (hR : Rd w w.heap.size 1 A len (i64s zs)) :
    Calls Try.prog 27 #[.slice A len cap] w (Made8 (runsBytes (runs zs)) w) := by
  refine (callsIn_wide (n := 6)).1 ?_
  have hzl : zs.length = len := by have := hR.len1; rwa [i64s_len] at this
  have hrl := runs_len zs
  have HA := Lib.hid (runs_all (l := zs) (by omega) hz)
  have HLR := Lib.hid hrl
  have HZL := Lib.hid hzl
  clear hz
  refine callsIn_of_wp_marks Try.func27 rfl trivial ?_ rfl
  simp only [Try.ntmps27, List.size_toArray, List.length_cons, List.length_nil, Nat.reduceAdd, Nat.reduceSub, Array.replicate_succ, Array.replicate_zero, List.push_toArray, List.append_toArray, List.nil_append, List.cons_append]
  gi_wp2_with fail
  refine ⟨trivial, ?_⟩
  refine (imk_any 5 _ _ _ _).mono ?_
  rintro e w' ⟨rfl, rfl⟩
  have bO := Boxed.new w 24 (.slice none 0 0)
  have bN := Boxed.new (w.alloc (.cells #[.slice none 0 0] 24)) 38 (.slice A len cap)
  rw [World.size_alloc] at bN
  have hB0 : Below w.heap.size w ((w.alloc (.cells #[.slice none 0 0] 24)).alloc (.cells #[.slice A len cap] 38)) := ((Below.refl _ w).alloc (Nat.le_refl _) _).alloc (by simp) _
  gi_wp2_with fail
  refine wpIn_rangeFunc_T (n := 6) (by omega) (gf := 46) (lb := #[.pointer (some ⟨w.heap.size + 1, 0, none⟩)]) rfl (enters_of Try.func46 (by kernel_rfl) rfl)
    (iruns_stops 5 (by omega) (w.heap.size + 1) w.heap.size A len cap zs hcap hmax _ (by simp; omega) bN (by omega) (hR.below hB0)) (by simp; omega) (Below.refl _ _) (fun k hk => by simp; omega) (fun _ => rfl)
    (fun pre T W => Coll T W w.heap.size w.heap.size 24 5 1 (runsBytes pre).length (by8 (runsBytes pre)) ∧ Below w.heap.size w W ∧ ∀ k, T k → w.heap.size ≤ k)
    (fun _ _ _ _ => False)
    (AbidesT.and (Coll.abides w.heap.size w.heap.size 24 5 1 (fun pre => (runsBytes pre).length) (fun pre => by8 (runsBytes pre))) (abides_below w.heap.size w (Nat.le_refl _)))
    (fun _ _ _ _ _ _ hs _ _ => hs)
    ⟨⟨_, bO.alloc _, by omega, World.ownsRow_nil _ _ _ _, by simp [Value.ownBlock]⟩, hB0, fun k hk => by omega⟩
    (fun x a' T W => a' = { tmps := #[.slice A len cap, undef, .slice none 0 0, .pointer (some ⟨w.heap.size, 0, none⟩), .int .i64 (x.1 : Int), .int .i64 x.2, .slice A len cap, .func (.func 46) #[] #[.pointer (some ⟨w.heap.size + 1, 0, none⟩)], .int .i64 (x.1 : Int), .int .i64 x.2, undef, undef, undef, undef, undef, undef, undef, undef, undef, undef], defers := [] })
    ?hAx ?assign ?body ?done ?stop
  case hAx =>
    rintro x a' _ T T' W W' rfl hm ht
    rfl
  case assign =>
    rintro l pre T x W K ⟨hC, hB, hT⟩ hTl _ _ hK
    gi_wp2
    exact hK _ _ (KeepsT.refl T W) (Below.refl _ W) ⟨hC, hB, hT⟩ rfl
  case body =>
    rintro l pre T ⟨k, x⟩ a' W ⟨⟨v, hv, hnB, hrow, hng⟩, hB, hT⟩ hTl rfl hpre hn
    have hmem : (k, x) ∈ runs zs := hpre.mem (by simp)
    obtain ⟨hk1, hk2, hx⟩ := HA.out _ hmem
    simp only at hk1 hk2 hx
    have hlp : (pre ++ [(k, x)]).length ≤ len := by have := hpre.length_le; omega
    have hpb := runsBytes_len (pre ++ [(k, x)]) (fun p hp => (HA.out p (hpre.mem hp)).2)
    rw [runsBytes_snoc, List.length_append] at hpb
    have hb1 : (runBytes (k, x)).length = (V.put k).length + (V.put (zig x).toNat).length := by simp [runBytes]
    obtain ⟨z, hz⟩ : ∃ z : Nat, (zig x).toNat = z := ⟨_, rfl⟩
    obtain ⟨hz1, hz2⟩ := zig_nat hx
    rw [hz] at hz1 hz2 hb1
    have hwk : IntKind.u64.wrap (k : Int) = (k : Int) := u64_wrap_of _ (by omega) (by omega)
    obtain ⟨Av, cv, rfl, _, _⟩ := own_slice hrow
    have hC := Lib.hid (CollAt.start hv hnB hrow hng hTl hn (Nat.le_refl _))
    have HB := Lib.hid hB
    have HT := Lib.hid hT
    have HN := Lib.hid hn
    have HP1 := Lib.hid (fun W => put_any k W hk2)
    have HP2 := Lib.hid (fun W => put_any z W hz2)
    have HZ : Hid (∀ W, Calls Try.prog 20 #[.int .i64 x] W fun e w' => e = .returned (.int .u64 (z : Int)) ∧ W = w') := Lib.hid fun W => by rw [hz1]; exact zig_any x W hx.1 hx.2
    have HZB : Hid (runsBytes (pre ++ [(k, x)]) = runsBytes pre ++ V.put k ++ V.put z) := Lib.hid (by rw [runsBytes_snoc, runBytes, ← hz]; simp)
    have hc := hv.cell
    simp only [List.length_append, List.length_cons, List.length_nil] at hlp hpb
    have HL1 : Hid ((runsBytes pre).length + (V.put k).length + (V.put z).length ≤ 1310720) := Lib.hid (by omega)
    clear hv hnB hrow hng hB hT hn hpre hmem hk2 hx hz hz1 hz2 hlp hpb hb1
    gi_wp2_with fail
    refine region_toRound (by kernel_rfl) (block_out post_out) (by kernel_rfl) ?_
    refine any_take (i := 1) (v := .int .i64 (k : Int)) rfl rfl (by kernel_rfl) (by kernel_rfl) (by kernel_rfl) (fun _ _ _ h => h) (fun _ => by go_simp) ?_
    simp only [Act.put, List.setIfInBounds_toArray, List.set_cons_succ, List.set_cons_zero, List.getElem_toArray, List.getElem_cons_succ, List.getElem_cons_zero]
    refine any_take (i := 2) (v := .int .u64 (k : Int)) rfl rfl (by kernel_rfl) (by kernel_rfl) (by kernel_rfl) (fun _ _ _ h => h) (fun _ => by go_simp) ?_
    simp only [Act.put, List.setIfInBounds_toArray, List.set_cons_succ, List.set_cons_zero, List.getElem_toArray, List.getElem_cons_succ, List.getElem_cons_zero]
    refine any_take (i := 5) (v := .int .i64 x) rfl rfl (by kernel_rfl) (by kernel_rfl) (by kernel_rfl) (fun _ _ _ h => h) (fun _ => by go_simp) ?_
    simp only [Act.put, List.setIfInBounds_toArray, List.set_cons_succ, List.set_cons_zero, List.getElem_toArray, List.getElem_cons_succ, List.getElem_cons_zero]
    refine any_load_call (i := 0) (j := 3) (v := .slice Av (runsBytes pre).length cv) (by kernel_rfl) (by kernel_rfl) (by kernel_rfl) (by decide) rfl rfl rfl rfl (by simp) rfl (enters_of Try.func17 (by kernel_rfl) rfl) [.int .u64 (k : Int)] rfl rfl (by kernel_rfl) (by kernel_rfl) (HP1.out _) (by go_simp) ?_
    rintro e w1 ⟨A1, c1, rfl, own1, hB1⟩
    have C1 := hC.out.drew.next hB1
    have hc1 := C1.box.cell
    refine ⟨_, rfl, by go_simp, ?_⟩
    simp only [Act.put, List.setIfInBounds_toArray, List.set_cons_succ, List.set_cons_zero, List.getElem_toArray, List.getElem_cons_succ, List.getElem_cons_zero]
    refine any_one (i := 4) (by kernel_rfl) rfl rfl (wp_app (.tmp 10) (.tmp 13) 24 rfl w.heap.size 5 (.int .u8 0) 1 1 Try.underlying24 info5 rfl (by decide) _ _ _ rfl C1.row w1.heap.size A1 _ c1 (by8 (V.put k)) rfl (Rd.of_own own1) (by8_one' _) (by have := HL1.out; unfold maxLen; omega) (by have := HL1.out; omega) (Nat.le_trans C1.base C1.below.size) ?_)
    intro A2 c2 w2 own2 hg2 hat2
    rw [← by8_append] at own2
    have C2 := C1.app (by decide) own2 hg2 hat2
    simp only [Act.put, List.setIfInBounds_toArray, List.set_cons_succ, List.set_cons_zero, List.getElem_toArray, List.getElem_cons_succ, List.getElem_cons_zero]
    refine any_call (i := 6) (by kernel_rfl) rfl rfl rfl (enters_of Try.func20 (by kernel_rfl) rfl) [.int .i64 x] rfl (HZ.out _) ?_
    rintro e w3 ⟨rfl, rfl⟩
    refine ⟨_, rfl, ?_⟩
    simp only [Act.put, List.setIfInBounds_toArray, List.set_cons_succ, List.set_cons_zero, List.getElem_toArray, List.getElem_cons_succ, List.getElem_cons_zero]
    refine any_call (i := 7) (by kernel_rfl) rfl rfl rfl (enters_of Try.func17 (by kernel_rfl) rfl) [.int .u64 (z : Int)] rfl (HP2.out _) ?_
    rintro e w4 ⟨A4, c4, rfl, own4, hB4⟩
    have C4 := C2.next hB4
    refine ⟨_, rfl, ?_⟩
    simp only [Act.put, List.setIfInBounds_toArray, List.set_cons_succ, List.set_cons_zero, List.getElem_toArray, List.getElem_cons_succ, List.getElem_cons_zero]
    refine any_one (i := 8) (by kernel_rfl) rfl rfl (wp_app (.tmp 14) (.tmp 17) 24 rfl w.heap.size 5 (.int .u8 0) 1 1 Try.underlying24 info5 rfl (by decide) _ _ _ rfl C4.row w4.heap.size A4 _ c4 (by8 (V.put z)) rfl (Rd.of_own own4) (by8_one' _) (by have := HL1.out; unfold maxLen; omega) (by have := HL1.out; omega) (Nat.le_trans C4.base C4.below.size) ?_)
    intro A5 c5 w5 own5 hg5 hat5
    rw [← by8_append] at own5
    have C5 := C4.app (by decide) own5 hg5 hat5
    simp only [Act.put, List.setIfInBounds_toArray, List.set_cons_succ, List.set_cons_zero, List.getElem_toArray, List.getElem_cons_succ, List.getElem_cons_zero]
    obtain ⟨d1, d2, d3⟩ := C5.done (by decide)
    have hc5 := C5.box.cell
    have hf5 := C5.box.frozen
    refine any_one (i := 9) (by kernel_rfl) rfl rfl ?_
    simp only [List.getElem_toArray, List.getElem_cons_succ, List.getElem_cons_zero]
    go_simp
    refine wpAny_done (by kernel_rfl) ?_ _
    refine ⟨d1, d2, ?_, HB.out.trans d2, HT.out⟩
    rw [HZB.out, List.length_append, List.length_append]
    exact d3
  case done =>
    rintro D T W hD hTD ⟨⟨v, hv, hnB, hrow, hng⟩, hB, hT⟩ hK
    have hc := hv.cell
    gi_wp2
    refine ⟨by simp, .inl ⟨_, _, rfl, run_takeDeferred hK, ?_⟩⟩
    obtain ⟨Av, cv, rfl, _, _⟩ := own_slice hrow
    exact ⟨_, results_tmp rfl _ _ _, Av, cv, rfl, ownsRow_putObj hrow _ hK rfl, hB.trans (belowK_b (w := w) (Nat.le_refl _) W D _ _ (by simp at hD; omega) hK rfl rfl)⟩
  case stop =>
    rintro D c pre T W _ _ _ h _
    exact h.elim
end Go.Proofs.Ytokpcpopibpebaa
