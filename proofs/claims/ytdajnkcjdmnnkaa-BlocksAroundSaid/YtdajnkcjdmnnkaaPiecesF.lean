/-
  The contract of Pieces.
-/
import Derived.Test.YtdajnkcjdmnnkaaIter
import Derived.Test.YtdajnkcjdmnnkaaAppIn
namespace Go.Proofs.Ytdajnkcjdmnnkaa
open Go Go.RowKit Go.Shelf
set_option linter.unusedVariables false
attribute [local go_sem] Oper.semAt_some

theorem info31 : (Try.prog.info? 31).map (fun i => (i.zero, i.size, i.bytes)) = some (some (.agg #[.int .i64 0, .int .i64 0, .int .i64 0, .int .i64 0]), 4, 32) := by kernel_rfl

theorem emi_len (l : List El) : ∀ k, (emi l k).length ≤ k
  | 0 => by simp [emi]
  | k + 1 => by
    unfold emi
    have := emi_len l k
    split
    · split
      · simp; omega
      · omega
    · omega
theorem pieces_len (l : List El) : (pieces l).length ≤ l.length + 1 := by
  unfold pieces
  have := emi_len l l.length
  simp; omega
theorem sps_append (a b : List Sp) : sps (a ++ b) = sps a ++ sps b := by simp [sps]
theorem sps_one (l : List Sp) : ∀ u ∈ sps l, u.oneCell' = true := by
  intro u hu
  simp only [sps, List.mem_flatMap] at hu
  obtain ⟨s, _, hs⟩ := hu
  simp [Sp.cells] at hs
  rcases hs with rfl | rfl | rfl | rfl <;> rfl

theorem pieces_stops (n : Nat) (hn : 1 ≤ n) (Bl n₀ : Nat) (A : Option Addr) (len cap : Nat) (xs : List El) (hmax : len ≤ maxLen) (w : World) (hn₀ : n₀ ≤ w.heap.size) (hBl : Boxed w Bl 22 (.slice A len cap)) (hlo : n₀ ≤ Bl) (hR : Rd w n₀ 4 A len (els xs)) :
    SeqOwns n Try.prog 22 #[.pointer (some ⟨Bl, 0, none⟩)] (fun x : Sp => #[Sp.val x]) n₀ (pieces xs) (fun k => k = Bl) w := fun l J Jx W hW hJ hY h0 =>
  pieces1_in n hn l Bl n₀ A len cap xs hmax J Jx hJ hY W (Nat.le_trans hn₀ hW.size) ((hW.block _ hBl.lt).trans hBl) (hR.below (hW.mono hn₀)) (fun k => k = Bl) rfl (fun k hk => by subst hk; exact hlo) h0

/-- a slice of the call's own that reads as the pieces l -/
def SpsOwn (base : Nat) (l : List Sp) (e : Ending) (w' : World) : Prop := ∃ A c, e = .returned (.slice A l.length c) ∧ w'.ownsRow base 31 4 (.slice A l.length c) l.length (sps l)

set_option maxRecDepth 100000 in
set_option maxHeartbeats 2000000 in
theorem pieces_any (A : Option Addr) (len cap : Nat) (xs : List El) (hlen : len ≤ 1000) (w : World) (hR : Rd w w.heap.size 4 A len (els xs)) :
    Calls Try.prog 8 #[.slice A len cap] w fun e w' => SpsOwn w.heap.size (pieces xs) e w' ∧ Below w.heap.size w w' := by
  refine (callsIn_wide (n := 6)).1 ?_
  have hpl := pieces_len xs
  have hxl : xs.length = len := by have := hR.1; rw [els_len] at this; omega
  refine callsIn_of_wp_marks Try.func8 rfl trivial ?_ rfl
  simp only [Try.ntmps8, List.size_toArray, List.length_cons, List.length_nil, Nat.reduceAdd, Nat.reduceSub, Array.replicate_succ, Array.replicate_zero, List.push_toArray, List.append_toArray, List.nil_append, List.cons_append]
  gi_wp2_with fail
  refine ⟨trivial, ?_⟩
  refine (mk_any 5 _ _ _ _).mono ?_
  rintro e w' ⟨rfl, rfl⟩
  have bO := Boxed.new w 24 (.slice none 0 0)
  have bN := Boxed.new (w.alloc (.cells #[.slice none 0 0] 24)) 22 (.slice A len cap)
  rw [World.size_alloc] at bN
  have hB0 : Below w.heap.size w ((w.alloc (.cells #[.slice none 0 0] 24)).alloc (.cells #[.slice A len cap] 22)) := ((Below.refl _ w).alloc (Nat.le_refl _) _).alloc (by simp) _
  gi_wp2_with fail
  refine wpIn_rangeFunc_T (n := 6) (by omega) (gf := 22) (lb := #[.pointer (some ⟨w.heap.size + 1, 0, none⟩)]) rfl (enters_of Try.func22 (by kernel_rfl) rfl)
    (pieces_stops 5 (by omega) (w.heap.size + 1) w.heap.size A len cap xs (by unfold maxLen; omega) _ (by simp; omega) bN (by omega) (hR.below hB0)) (by simp; omega) (Below.refl _ _) (fun k hk => by simp; omega) (fun _ => rfl)
    (fun pre T W => Coll T W w.heap.size w.heap.size 24 31 4 pre.length (sps pre) ∧ Below w.heap.size w W ∧ ∀ k, T k → w.heap.size ≤ k)
    (fun _ _ _ _ => False)
    (AbidesT.and (Coll.abides w.heap.size w.heap.size 24 31 4 (fun pre => pre.length) (fun pre => sps pre)) (abides_below w.heap.size w (Nat.le_refl _)))
    (fun _ _ _ _ _ _ hs _ _ => hs)
    ⟨⟨_, bO.alloc _, by omega, World.ownsRow_nil _ _ _ _, by simp [Value.ownBlock]⟩, hB0, fun k hk => by omega⟩
    (fun x a' T W => ∃ Bx, Box4 W Bx 31 (.int .i64 x.n) (.int .i64 x.r) (.int .i64 x.f) (.int .i64 x.t) ∧ ¬ T Bx ∧ w.heap.size < Bx ∧ a' = { tmps := #[.slice A len cap, undef, .slice none 0 0, .pointer (some ⟨w.heap.size, 0, none⟩), .pointer (some ⟨Bx, 0, none⟩), .slice A len cap, .func (.func 22) #[] #[.pointer (some ⟨w.heap.size + 1, 0, none⟩)], x.val, undef, undef, undef, undef, undef], defers := [] })
    ?hAx ?assign ?body ?done ?stop
  case hAx =>
    rintro x a' _ T T' W W' ⟨Bx, hb, hT, hlt, rfl⟩ hm ht
    refine ⟨Bx, (hm.block Bx hb.lt hT).trans hb, fun h => ?_, hlt, rfl⟩
    rcases ht Bx h with h1 | h1
    · exact hT h1
    · have := hb.lt; omega
  case assign =>
    rintro l pre T x W K ⟨hC, hB, hT⟩ hTl _ _ hK
    simp only [Sp.val]
    gi_wp2
    have hs := hB.size
    refine hK _ _ ?_ ?_ ?_ ⟨W.heap.size, World.alloc_heap_new W _, fun h => by have := hTl _ h; omega, ?_, rfl⟩
    · exact (KeepsT.refl T W).alloc hTl _
    · exact (Below.refl _ W).alloc hs _
    · exact ⟨hC.moves ((Moves.refl T W).alloc _) (Turns.refl _ _ _), hB.alloc hs _, hT⟩
    · obtain ⟨v, hv, _⟩ := hC
      exact hv.lt
  case body =>
    rintro l pre T x a' W ⟨⟨v, hv, hnB, hrow, hng⟩, hB, hT⟩ hTl ⟨Bx, hb, hTx, hltx, rfl⟩ hpre hn
    have hc := hv.cell
    have c0 := hb.c0
    have c1 := hb.c1
    have c2 := hb.c2
    have c3 := hb.c3
    obtain ⟨Av, cv, rfl, _, _⟩ := own_slice hrow
    have hpl2 : pre.length + 1 ≤ (pieces xs).length := by have := hpre.length_le; simpa using this
    have hnW := hn
    gi_wp2_with (gi_at_builtin; refine wpListIn_app _ rfl (.tmp 8) (.tmp 10) 24 rfl w.heap.size 31 _ 4 32 Try.underlying24 info31 rfl (by decide) _ _ _ rfl (hrow.alloc _) (W.heap.size + 1) (some ⟨W.heap.size, 0, none⟩) 1 1 [.int .i64 x.n, .int .i64 x.r, .int .i64 x.f, .int .i64 x.t] rfl (rd_alloc W #[.int .i64 x.n, .int .i64 x.r, .int .i64 x.f, .int .i64 x.t] 31 (0, 0) 1 4 rfl) (sps_one [x]) (by unfold maxLen; omega) (by omega) (by simp; omega) ?_)
    intro A' c' w' hown' hg' hat'
    obtain ⟨h1, h2, h3, h4⟩ := Coll.appended hv hnB hrow hng (by decide) hTl hn (Nat.le_refl _) hown' hg' (fun g hg => (hat' g hg).imp id (fun e => by (try simp at e); omega))
    have hc1 := h1.cell
    have hf1 := h1.frozen
    gi_wp2_with fail
    refine ⟨h2, h3, ⟨?_, hB.trans h3, hT⟩⟩
    rw [sps_append, List.length_append]
    exact h4
  case done =>
    rintro D T W hD hTD ⟨⟨v, hv, hnB, hrow, hng⟩, hB, hT⟩ hK
    have hc := hv.cell
    gi_wp2
    refine ⟨by simp, .inl ⟨_, _, rfl, run_takeDeferred hK, ?_⟩⟩
    obtain ⟨Av, cv, rfl, _, _⟩ := own_slice hrow
    exact ⟨_, results_tmp rfl _ _ _, ⟨Av, cv, rfl, ownsRow_putObj hrow _ hK rfl⟩, hB.trans (belowK_b (w := w) (Nat.le_refl _) W D _ _ (by simp at hD; omega) hK rfl rfl)⟩
  case stop =>
    rintro D c pre T W _ _ _ h _
    exact h.elim
end Go.Proofs.Ytdajnkcjdmnnkaa
