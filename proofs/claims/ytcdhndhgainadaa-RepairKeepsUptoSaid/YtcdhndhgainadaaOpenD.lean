/-
  What the laws' arguments read as, over this program's types: strings, nodes.
-/
import Derived.Test.YtcdhndhgainadaaOpenN
import Derived.Test.YtcdhndhgainadaaTreeLaw
import Derived.Test.YtcdhndhgainadaaProg
import Derived.Test.YtcdhndhgainadaaChecked
namespace Go.Proofs.Ytcdhndhgainadaa
open Go Go.ChangeShapes Go.WideShapes Go.RowKit

theorem own : ownKnob Try.prog.godebug = none := by kernel_rfl
theorem laidOut : laidOutB Try.prog = true := by kernel_rfl
theorem cells26 : Try.prog.cellsOf 26 = 2 := by kernel_rfl
theorem cells31 : Try.prog.cellsOf 31 = 6 := by kernel_rfl
theorem cells3 : Try.prog.cellsOf 3 = 1 := by kernel_rfl
theorem cells27 : Try.prog.cellsOf 27 = 1 := by kernel_rfl
theorem cells28 : Try.prog.cellsOf 28 = 1 := by kernel_rfl
theorem cells29 : Try.prog.cellsOf 29 = 1 := by kernel_rfl
theorem cells9 : Try.prog.cellsOf 9 = 1 := by kernel_rfl

section
variable {H : Type} {enc : TypeId × Value → H} {W : World}
theorem open_str {base : Nat} {v : Value} {d : DataW H} {p : List MemPlace} (hv : Value.okWide Try.prog W .any base 9 v) (h : DataW.Trod enc Try.prog W 0 (fun _ => true) true 9 v d p)
    {ts : List TypeId} {ds : List (DataW H)} (_ : (DataW.weightsEach Try.prog ts ds).all (· ≤ reachBytes) = true) (j : Nat) (_ : ts[j]? = some 9) (_ : ds[j]? = some d) :
    ∃ s, v = .string s := by
  obtain ⟨s, rfl⟩ := okWide_string Try.underlying9 hv
  exact ⟨s, rfl⟩
theorem i64_cell {fuel : Nat} {v : Value} {y : DataW H × List MemPlace} (hf : DataW.trod enc Try.prog W 0 (fun _ => true) true fuel 3 [v] = some y) : ∃ n : Int, v = .int .i64 n := by
  obtain ⟨a, e, _, wa⟩ := DataW.trod_int Try.underlying3 hf
  simp only [List.cons.injEq, and_true] at e
  exact ⟨a, e⟩
theorem stamp_cells {fuel : Nat} {cs : List Value} {y : DataW H × List MemPlace} (hf : DataW.trod enc Try.prog W 0 (fun _ => true) true fuel 26 cs = some y) : ∃ n r : Int, cs = [.int .i64 n, .int .i64 r] := by
  obtain ⟨y0, y1, m, rfl, hl, h0, h1⟩ := trod_struct2 Try.underlying26 hf
  rw [cells26] at hl
  match cs, hl with
  | [v0, v1], _ =>
    obtain ⟨n, rfl⟩ := i64_cell (v := v0) (by simpa [cells3] using h0)
    obtain ⟨r, rfl⟩ := i64_cell (v := v1) (by simpa [cells3] using h1)
    exact ⟨n, r, rfl⟩
theorem slice_cell {t e : TypeId} (ht : Try.prog.underlying t = some (.slice e)) {fuel : Nat} {v : Value} {y : DataW H × List MemPlace} (hf : DataW.trod enc Try.prog W 0 (fun _ => true) true fuel t [v] = some y) : ∃ (A : Option Addr) (n c : Nat), v = .slice A n c ∧ n ≤ c ∧ c ≤ maxLen := by
  rcases DataW.trod_slice ht hf with ⟨hcs, hx⟩ | ⟨a, n, cap, elems, rest, k, hfu, hcs, hx, _, hl, hm, hlen, hel, hsp, _⟩
  · simp only [List.cons.injEq, and_true] at hcs
    exact ⟨none, 0, 0, hcs, Nat.le_refl _, by simp [maxLen]⟩
  · simp only [List.cons.injEq, and_true] at hcs
    exact ⟨some a, n, cap, hcs, hl, hm⟩
theorem node_cells : ∀ (N fuel : Nat) (cs : List Value) (y : DataW H × List MemPlace), fuel < N → DataW.trod enc Try.prog W 0 (fun _ => true) true fuel 31 cs = some y → ∃ t : Tree, Nd W W.heap.size cs t := by
  intro N
  induction N with
  | zero => intro fuel cs y h; omega
  | succ N ih =>
    intro fuel cs y hN hf
    obtain ⟨xs, n, rfl, -, hl, hxs, hfd⟩ := DataW.trod_struct Try.underlying31 hf
    rw [cells31] at hl
    match xs, hxs with
    | [x0, x1, x2, x3, x4], _ =>
    have e0 := hfd 0 _ rfl
    have e1 := hfd 1 _ rfl
    have e2 := hfd 2 _ rfl
    have e3 := hfd 3 _ rfl
    have e4 := hfd 4 _ rfl
    match cs, hl with
    | [v0, v1, v2, v3, v4, v5], _ =>
      obtain ⟨sn, sr, he⟩ := stamp_cells (cs := [v0, v1]) (y := x0) (by simpa [cells26] using e0)
      injection he with h0 h1
      injection h1 with h1 _
      subst h0 h1
      obtain ⟨k, hk, _⟩ := DataW.trod_string (cs := [v2]) Try.underlying9 (x := x1) (by simpa [cells9] using e1)
      injection hk with hk _
      subst hk
      obtain ⟨AA, an, ac, rfl, _, _⟩ := slice_cell (v := v3) (y := x2) Try.underlying27 (by simpa [cells27] using e2)
      obtain ⟨TA, tn, tc, rfl, ht1, ht2⟩ := slice_cell (v := v4) (y := x3) Try.underlying28 (by simpa [cells28] using e3)
      obtain ⟨A, m, c, zs, rfl, hrd, hmc, hcm, -, hzl, hz⟩ := open_slice_n (v := v5) (y := x4) Try.underlying29 cells31 (by decide) (by simpa [cells29] using e4)
        (α := {p : List Value × Tree // p.1.length = 6}) (fun a => a.1.1) (fun a => a.2) (fun a _ => Nd W W.heap.size a.1.1 a.1.2)
        (fun m' cs' y' hm' hc' h' => by
          obtain ⟨t, ht⟩ := ih m' cs' y' (by omega) h'
          exact ⟨⟨(cs', t), hc'⟩, rfl, ht⟩)
      refine ⟨.node sn sr k tn (zs.map fun a => a.1.2), ?_⟩
      have hlen : (zs.map fun a => a.1.2).length = m := by rw [List.length_map, hzl]
      have := Nd.mk (w := W) (B := W.heap.size) sn sr k AA an ac A c TA tn tc (fun i => (zs[i]?.map fun a => a.1.1).getD []) (zs.map fun a => a.1.2) ?_ ?_ (by rw [hlen]; exact hmc) (by simpa [maxLen] using hcm) (by have := Nat.le_trans ht1 ht2; simpa [maxLen] using this)
      · rw [hlen] at this
        exact this
      · rcases Nat.eq_zero_or_pos m with h0 | h0
        · left
          exact List.eq_nil_of_length_eq_zero (by rw [hlen, h0])
        · right
          obtain ⟨b, off, hA, hb, hcl⟩ := hrd.at_ h0
          refine ⟨b, off, hA, hb, fun i hi j u hu => hcl _ _ ?_⟩
          have hi' : i < zs.length := by rw [List.length_map] at hi; exact hi
          have hzi : zs[i]? = some zs[i] := List.getElem?_eq_getElem hi'
          simp only [hzi, Option.map_some, Option.getD_some] at hu
          have hj : j < 6 := by
            rcases Nat.lt_or_ge j 6 with h | h
            · exact h
            · rw [List.getElem?_eq_none (by rw [zs[i].2]; exact h)] at hu; cases hu
          rw [flatN _ 6 (fun a => a.2) zs i _ j hzi hj]
          exact hu
      · intro i t hi
        rw [List.getElem?_map] at hi
        obtain ⟨a, ha, rfl⟩ := Option.map_eq_some_iff.1 hi
        obtain ⟨_, hnd⟩ := hz a (List.mem_of_getElem? ha)
        simp only [ha, Option.map_some, Option.getD_some]
        exact hnd
/-- a Node, by value -/
theorem open_node {base : Nat} {v : Value} {d : DataW H} {p : List MemPlace} (hv : Value.okWide Try.prog W .any base 31 v) (h : DataW.Trod enc Try.prog W 0 (fun _ => true) true 31 v d p)
    {ts : List TypeId} {ds : List (DataW H)} (_ : (DataW.weightsEach Try.prog ts ds).all (· ≤ reachBytes) = true) (j : Nat) (_ : ts[j]? = some 31) (_ : ds[j]? = some d) :
    ∃ (cs : List Value) (t : Tree), v = .agg cs.toArray ∧ Nd W W.heap.size cs t := by
  obtain ⟨fuel, hf⟩ := h
  obtain ⟨cs, rfl, hsz⟩ := okWide_struct Try.underlying31 hv
  obtain ⟨t, ht⟩ := node_cells (fuel + 1) fuel cs.toList _ (Nat.lt_succ_self _) (by simpa [Value.cells] using hf)
  exact ⟨cs.toList, t, by simp, ht⟩
end
end Go.Proofs.Ytcdhndhgainadaa
