/-
  What the laws' arguments read as: rich nodes.
-/
import Derived.Test.YtcdhndhgainadaaNdR
namespace Go.Proofs.Ytcdhndhgainadaa
open Go Go.ChangeShapes Go.WideShapes Go.RowKit
set_option linter.unusedVariables false

theorem cells57 : Try.prog.cellsOf 57 = 2 := by kernel_rfl
theorem cells55 : Try.prog.cellsOf 55 = 2 := by kernel_rfl

section
variable {H : Type} {enc : TypeId × Value → H} {W : World}
theorem str_cell {fuel : Nat} {v : Value} {y : DataW H × List MemPlace} (hf : DataW.trod enc Try.prog W 0 (fun _ => true) true fuel 9 [v] = some y) : ∃ s : ByteArray, v = .string s := by
  obtain ⟨k, hk, _⟩ := DataW.trod_string (cs := [v]) Try.underlying9 hf
  injection hk with hk _
  exact ⟨k, hk⟩
theorem attr_cells {fuel : Nat} {cs : List Value} {y : DataW H × List MemPlace} (hf : DataW.trod enc Try.prog W 0 (fun _ => true) true fuel 57 cs = some y) : ∃ a b : ByteArray, cs = [.string a, .string b] := by
  obtain ⟨y0, y1, m, rfl, hl, h0, h1⟩ := trod_struct2 Try.underlying57 hf
  rw [cells57] at hl
  match cs, hl with
  | [v0, v1], _ =>
    obtain ⟨n, rfl⟩ := str_cell (v := v0) (by simpa [cells9] using h0)
    obtain ⟨r, rfl⟩ := str_cell (v := v1) (by simpa [cells9] using h1)
    exact ⟨n, r, rfl⟩
theorem attrs_cell {t : TypeId} (ht : Try.prog.underlying t = some (.slice 57)) {fuel : Nat} {v : Value} {y : DataW H × List MemPlace} (hf : DataW.trod enc Try.prog W 0 (fun _ => true) true fuel t [v] = some y) : ∃ A n c xs, v = .slice A n c ∧ RdA W W.heap.size A n c xs := by
  obtain ⟨A, m, c, zs, rfl, hrd, hmc, hcm, -, hzl, -⟩ := open_slice_n (v := v) (y := y) ht cells57 (by decide) hf
    (α := Att) (fun a => [.string a.1, .string a.2]) (fun a => rfl) (fun _ _ => True)
    (fun m' cs' y' hm' hc' h' => by
      obtain ⟨a, b, rfl⟩ := attr_cells h'
      exact ⟨(a, b), rfl, trivial⟩)
  exact ⟨A, m, c, zs, rfl, hrd, hzl, hmc, hcm⟩
theorem piece_cells {fuel : Nat} {cs : List Value} {y : DataW H × List MemPlace} (hf : DataW.trod enc Try.prog W 0 (fun _ => true) true fuel 55 cs = some y) : ∃ p : Pce, PcR W W.heap.size cs p := by
  obtain ⟨y0, y1, m, rfl, hl, h0, h1⟩ := trod_struct2 Try.underlying55 hf
  rw [cells55] at hl
  match cs, hl with
  | [v0, v1], _ =>
    obtain ⟨s, rfl⟩ := str_cell (v := v0) (by simpa [cells9] using h0)
    obtain ⟨A, n, c, xs, rfl, h⟩ := attrs_cell (v := v1) Try.underlying27 (by simpa [cells9, cells27] using h1)
    exact ⟨(s, xs), .mk s A n c xs h⟩
theorem pieces_cell {t : TypeId} (ht : Try.prog.underlying t = some (.slice 55)) {fuel : Nat} {v : Value} {y : DataW H × List MemPlace} (hf : DataW.trod enc Try.prog W 0 (fun _ => true) true fuel t [v] = some y) : ∃ A n c xs, v = .slice A n c ∧ RdP W W.heap.size A n c xs := by
  obtain ⟨A, m, c, zs, rfl, hrd, hmc, hcm, -, hzl, hz⟩ := open_slice_n (v := v) (y := y) ht cells55 (by decide) hf
    (α := Z Pce 2) (fun a => a.1.1) (fun a => a.2) (fun a _ => PcR W W.heap.size a.1.1 a.1.2)
    (fun m' cs' y' hm' hc' h' => by
      obtain ⟨p, hp⟩ := piece_cells h'
      exact ⟨⟨(cs', p), hc'⟩, rfl, hp⟩)
  exact ⟨A, m, c, vz zs, rfl, zs, rfl, hrd, hzl, fun z hx => (hz z hx).elim fun _ h => h, hmc, hcm⟩
theorem noder_cells : ∀ (N fuel : Nat) (cs : List Value) (y : DataW H × List MemPlace), fuel < N → DataW.trod enc Try.prog W 0 (fun _ => true) true fuel 31 cs = some y → ∃ t : RT, NdR W W.heap.size cs t := by
  intro N
  induction N with
  | zero => intro fuel cs y h; omega
  | succ N ih =>
    intro fuel cs y hN hf
    obtain ⟨xs, n, rfl, -, hl, hxs, hfd⟩ := DataW.trod_struct Try.underlying31 hf
    rw [cells31] at hl
    match xs, hxs with
    | [x0, x1, x2, x3, x4], _ =>
    have e0 := hfd 0 _ rfl
    have e1 := hfd 1 _ rfl
    have e2 := hfd 2 _ rfl
    have e3 := hfd 3 _ rfl
    have e4 := hfd 4 _ rfl
    match cs, hl with
    | [v0, v1, v2, v3, v4, v5], _ =>
      obtain ⟨sn, sr, he⟩ := stamp_cells (cs := [v0, v1]) (y := x0) (by simpa [cells26] using e0)
      injection he with h0 h1
      injection h1 with h1 _
      subst h0 h1
      obtain ⟨k, rfl⟩ := str_cell (v := v2) (y := x1) (by simpa [cells9] using e1)
      obtain ⟨AA, an, ac, at_, rfl, ha⟩ := attrs_cell (v := v3) (y := x2) Try.underlying27 (by simpa [cells27] using e2)
      obtain ⟨TA, tn, tc, tx, rfl, hp⟩ := pieces_cell (v := v4) (y := x3) Try.underlying28 (by simpa [cells28] using e3)
      obtain ⟨A, m, c, zs, rfl, hrd, hmc, hcm, -, hzl, hz⟩ := open_slice_n (v := v5) (y := x4) Try.underlying29 cells31 (by decide) (by simpa [cells29] using e4)
        (α := Z RT 6) (fun a => a.1.1) (fun a => a.2) (fun a _ => NdR W W.heap.size a.1.1 a.1.2)
        (fun m' cs' y' hm' hc' h' => by
          obtain ⟨t, ht⟩ := ih m' cs' y' (by omega) h'
          exact ⟨⟨(cs', t), hc'⟩, rfl, ht⟩)
      exact ⟨_, .mk sn sr k AA an ac at_ TA tn tc tx A m c zs ha hp hrd hzl (fun z hx => (hz z hx).elim fun _ h => h) hmc hcm⟩
/-- a Node, by value -/
theorem open_rnode {base : Nat} {v : Value} {d : DataW H} {p : List MemPlace} (hv : Value.okWide Try.prog W .any base 31 v) (h : DataW.Trod enc Try.prog W 0 (fun _ => true) true 31 v d p)
    {ts : List TypeId} {ds : List (DataW H)} (_ : (DataW.weightsEach Try.prog ts ds).all (· ≤ reachBytes) = true) (j : Nat) (_ : ts[j]? = some 31) (_ : ds[j]? = some d) :
    ∃ (cs : List Value) (t : RT), v = .agg cs.toArray ∧ NdR W W.heap.size cs t := by
  obtain ⟨fuel, hf⟩ := h
  obtain ⟨cs, rfl, hsz⟩ := okWide_struct Try.underlying31 hv
  obtain ⟨t, ht⟩ := noder_cells (fuel + 1) fuel cs.toList _ (Nat.lt_succ_self _) (by simpa [Value.cells] using hf)
  exact ⟨cs.toList, t, by simp, ht⟩
end
end Go.Proofs.Ytcdhndhgainadaa
