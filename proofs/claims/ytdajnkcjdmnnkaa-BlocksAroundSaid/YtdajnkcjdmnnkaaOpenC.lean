/-
  What the laws' arguments read as, over this program's types.
-/
import Derived.Test.YtdajnkcjdmnnkaaOpenN
import Derived.Test.YtdajnkcjdmnnkaaEl
namespace Go.Proofs.Ytdajnkcjdmnnkaa
open Go Go.ChangeShapes Go.WideShapes Go.RowKit

theorem own : ownKnob Try.prog.godebug = none := by kernel_rfl
theorem laidOut : laidOutB Try.prog = true := by kernel_rfl
theorem cells29 : Try.prog.cellsOf 29 = 4 := by kernel_rfl
theorem cells27 : Try.prog.cellsOf 27 = 2 := by kernel_rfl
theorem cells31 : Try.prog.cellsOf 31 = 4 := by kernel_rfl
theorem cells3 : Try.prog.cellsOf 3 = 1 := by kernel_rfl
theorem cells4 : Try.prog.cellsOf 4 = 1 := by kernel_rfl
theorem bytes29 : Try.prog.bytesOf 29 = 32 := by kernel_rfl

def In64 (n : Int) : Prop := -9223372036854775808 ≤ n ∧ n < 9223372036854775808

/-- an element's numbers are in range -/
def El.fits (e : El) : Prop := In64 e.n ∧ In64 e.r ∧ In64 e.ch

/-- a []Element that came in -/
structure ElsIn (W : World) (A : Option Addr) (n c : Nat) (l : List El) : Prop where
  rd : Rd W W.heap.size 4 A n (els l)
  len : l.length = n
  cap : n ≤ c
  max : c ≤ maxLen
  reach : n * 32 ≤ 140737488351232
  fits : ∀ e ∈ l, e.fits

section
variable {H : Type} {enc : TypeId × Value → H} {W : World}
theorem i64_cell {fuel : Nat} {v : Value} {y : DataW H × List MemPlace} (hf : DataW.trod enc Try.prog W 0 (fun _ => true) true fuel 3 [v] = some y) : ∃ n : Int, v = .int .i64 n ∧ In64 n := by
  obtain ⟨a, e, _, wa⟩ := DataW.trod_int Try.underlying3 hf
  simp only [List.cons.injEq, and_true] at e
  subst e
  have b := bounds_i64 wa
  exact ⟨a, rfl, b.1, by omega⟩
theorem bool_cell {fuel : Nat} {v : Value} {y : DataW H × List MemPlace} (hf : DataW.trod enc Try.prog W 0 (fun _ => true) true fuel 4 [v] = some y) : ∃ b : Bool, v = .bool b := by
  obtain ⟨a, e, _⟩ := DataW.trod_bool Try.underlying4 hf
  simp only [List.cons.injEq, and_true] at e
  subst e
  exact ⟨a, rfl⟩
theorem stamp_cells {fuel : Nat} {cs : List Value} {y : DataW H × List MemPlace} (hf : DataW.trod enc Try.prog W 0 (fun _ => true) true fuel 27 cs = some y) : ∃ n r : Int, cs = [.int .i64 n, .int .i64 r] ∧ In64 n ∧ In64 r := by
  obtain ⟨y0, y1, m, rfl, hl, h0, h1⟩ := trod_struct2 Try.underlying27 hf
  rw [cells27] at hl
  match cs, hl with
  | [v0, v1], _ =>
    obtain ⟨n, rfl, hn⟩ := i64_cell (v := v0) (by simpa [cells3] using h0)
    obtain ⟨r, rfl, hr⟩ := i64_cell (v := v1) (by simpa [cells3] using h1)
    exact ⟨n, r, rfl, hn, hr⟩
theorem el_cells {fuel : Nat} {cs : List Value} {y : DataW H × List MemPlace} (hf : DataW.trod enc Try.prog W 0 (fun _ => true) true fuel 29 cs = some y) : ∃ e : El, cs = e.cells ∧ e.fits := by
  obtain ⟨y0, y1, y2, m, rfl, hl, h0, h1, h2⟩ := Deep.trod_struct3 Try.underlying29 hf
  rw [cells29] at hl
  match cs, hl with
  | [v0, v1, v2, v3], _ =>
    obtain ⟨n, r, e, hn, hr⟩ := stamp_cells (cs := [v0, v1]) (by simpa [cells27] using h0)
    injection e with e1 e2
    injection e2 with e2 _
    subst e1 e2
    obtain ⟨ch, rfl, hc⟩ := i64_cell (v := v2) (by simpa [cells3] using h1)
    obtain ⟨g, rfl⟩ := bool_cell (v := v3) (by simpa [cells4] using h2)
    exact ⟨⟨n, r, ch, g⟩, rfl, hn, hr, hc⟩

theorem open_i64 {t : TypeId} (ht : Try.prog.underlying t = some (.int .i64)) {base : Nat} {v : Value} {d : DataW H} {p : List MemPlace} (hv : Value.okWide Try.prog W .any base t v) (h : DataW.Trod enc Try.prog W 0 (fun _ => true) true t v d p) :
    ∃ n : Int, v = .int .i64 n ∧ -9223372036854775808 ≤ n ∧ n < 9223372036854775808 := by
  obtain ⟨a, rfl, rfl, rfl, wa⟩ := open_int ht hv h
  have b := bounds_i64 wa
  exact ⟨a, rfl, b.1, by omega⟩

theorem open_els {base : Nat} {v : Value} {d : DataW H} {p : List MemPlace} (hv : Value.okWide Try.prog W .any base 22 v) (h : DataW.Trod enc Try.prog W 0 (fun _ => true) true 22 v d p)
    {ts : List TypeId} {ds : List (DataW H)} (hsz : (DataW.weightsEach Try.prog ts ds).all (· ≤ reachBytes) = true) (j : Nat) (ht : ts[j]? = some 22) (hd : ds[j]? = some d) :
    ∃ A n c l, v = .slice A n c ∧ ElsIn W A n c l := by
  obtain ⟨fuel, hf⟩ := h
  obtain ⟨A0, n0, c0, rfl⟩ := okWide_slice Try.underlying22 hv
  have hf' : DataW.trod enc Try.prog W 0 (fun _ => true) true fuel 22 [.slice A0 n0 c0] = some (d, p) := by simpa [Value.cells] using hf
  obtain ⟨A, n, c, xs, hv', hr, hc, hm, hdat, hxl, hG⟩ := open_slice_n Try.underlying22 cells29 (by omega) hf' El.cells (fun _ => rfl) (fun e _ => e.fits) (fun m cs y _ _ hy => el_cells hy)
  injection hv' with e1 e2 e3
  subst e1 e2 e3
  refine ⟨_, _, _, xs, rfl, hr, hxl, hc, hm, ?_, fun e he => (hG e he).elim fun _ h => h⟩
  rcases hdat with ⟨_, h0⟩ | ⟨elems, spare, he, hlen⟩
  · omega
  · simp only at he
    subst he
    have := sized_slice hsz (j := j) (t := 22) (e := 29) ht hd Try.underlying22
    rw [bytes29] at this
    simp only [reachBytes] at this
    omega

/-- a Stamp, by value -/
theorem open_stamp {base : Nat} {v : Value} {d : DataW H} {p : List MemPlace} (hv : Value.okWide Try.prog W .any base 27 v) (h : DataW.Trod enc Try.prog W 0 (fun _ => true) true 27 v d p)
    {ts : List TypeId} {ds : List (DataW H)} (_ : (DataW.weightsEach Try.prog ts ds).all (· ≤ reachBytes) = true) (j : Nat) (_ : ts[j]? = some 27) (_ : ds[j]? = some d) :
    ∃ n r, v = .agg #[.int .i64 n, .int .i64 r] ∧ In64 n ∧ In64 r := by
  obtain ⟨fuel, hf⟩ := h
  obtain ⟨cs, rfl, hsz⟩ := okWide_struct Try.underlying27 hv
  rw [cells27] at hsz
  match cs, hsz with
  | ⟨[v0, v1]⟩, _ =>
    obtain ⟨n, r, e, hn, hr⟩ := stamp_cells (cs := [v0, v1]) (by simpa [Value.cells] using hf)
    injection e with e1 e2
    injection e2 with e2 _
    subst e1 e2
    exact ⟨n, r, rfl, hn, hr⟩
/-- a Span, by value -/
theorem open_span {base : Nat} {v : Value} {d : DataW H} {p : List MemPlace} (hv : Value.okWide Try.prog W .any base 31 v) (h : DataW.Trod enc Try.prog W 0 (fun _ => true) true 31 v d p)
    {ts : List TypeId} {ds : List (DataW H)} (_ : (DataW.weightsEach Try.prog ts ds).all (· ≤ reachBytes) = true) (j : Nat) (_ : ts[j]? = some 31) (_ : ds[j]? = some d) :
    ∃ n r f t, v = .agg #[.int .i64 n, .int .i64 r, .int .i64 f, .int .i64 t] ∧ In64 n ∧ In64 r ∧ In64 f ∧ In64 t := by
  obtain ⟨fuel, hf⟩ := h
  obtain ⟨cs, rfl, hsz⟩ := okWide_struct Try.underlying31 hv
  rw [cells31] at hsz
  match cs, hsz with
  | ⟨[v0, v1, v2, v3]⟩, _ =>
    obtain ⟨y0, y1, y2, m, _, hl, h0, h1, h2⟩ := Deep.trod_struct3 Try.underlying31 hf
    obtain ⟨n, r, e, hn, hr⟩ := stamp_cells (cs := [v0, v1]) (by simpa [cells27, Value.cells] using h0)
    injection e with e1 e2
    injection e2 with e2 _
    subst e1 e2
    obtain ⟨f, rfl, kf⟩ := i64_cell (v := v2) (by simpa [cells3, Value.cells] using h1)
    obtain ⟨t, rfl, kt⟩ := i64_cell (v := v3) (by simpa [cells3, Value.cells] using h2)
    exact ⟨n, r, f, t, rfl, hn, hr, kf, kt⟩
end
end Go.Proofs.Ytdajnkcjdmnnkaa
