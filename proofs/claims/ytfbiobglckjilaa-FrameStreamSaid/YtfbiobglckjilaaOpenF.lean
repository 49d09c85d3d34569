/-
  The structs of the laws' arguments, opened.
-/
import Derived.Test.YtfbiobglckjilaaOpenB
import Derived.Test.YtfbiobglckjilaaOpenCell
namespace Go.Proofs.Ytfbiobglckjilaa
open Go Go.ChangeShapes Go.WideShapes Go.RowKit

theorem cells35 : Try.prog.cellsOf 35 = 4 := by kernel_rfl
theorem cells38 : Try.prog.cellsOf 38 = 4 := by kernel_rfl

/-- a []byte that came in, its reach not said -/
structure Byts (W : World) (A : Option Addr) (n c : Nat) (l : List Nat) : Prop where
  rd : Rd W W.heap.size 1 A n (by8 l)
  lt : ∀ x ∈ l, x < 256
  cap : n ≤ c
  max : c ≤ maxLen

section
variable {H : Type} {enc : TypeId × Value → H} {W : World}
theorem byts_cell {fuel : Nat} {v : Value} {y : DataW H × List MemPlace} (hf : DataW.trod enc Try.prog W 0 (fun _ => true) true fuel 22 [v] = some y) :
    ∃ A n c l, v = .slice A n c ∧ Byts W A n c l := by
  obtain ⟨A, n, c, xs, rfl, hr, hc, hm, hel⟩ := open_slice_cell Try.underlying22 cells5 hf
  obtain ⟨zs, rfl, hw⟩ := list_nums Try.underlying5 xs hel
  obtain ⟨l, rfl⟩ := nums_nat zs (fun z hz => (bounds_u8 (hw z hz)).1)
  refine ⟨A, n, c, l, rfl, by simpa [by8, Function.comp_def] using hr, fun x hx => ?_, hc, hm⟩
  have := (bounds_u8 (hw x (List.mem_map.2 ⟨x, hx, rfl⟩))).2
  omega
theorem u8_cell {fuel : Nat} {v : Value} {y : DataW H × List MemPlace} (hf : DataW.trod enc Try.prog W 0 (fun _ => true) true fuel 5 [v] = some y) : ∃ n : Nat, v = .int .u8 n ∧ n < 256 := by
  obtain ⟨a, e, _, wa⟩ := DataW.trod_int Try.underlying5 hf
  simp only [List.cons.injEq, and_true] at e
  subst e
  have b := bounds_u8 wa
  obtain ⟨n, rfl⟩ := Int.eq_ofNat_of_zero_le b.1
  exact ⟨n, rfl, by omega⟩
theorem i64_cell {fuel : Nat} {v : Value} {y : DataW H × List MemPlace} (hf : DataW.trod enc Try.prog W 0 (fun _ => true) true fuel 3 [v] = some y) : ∃ n : Int, v = .int .i64 n ∧ -9223372036854775808 ≤ n ∧ n < 9223372036854775808 := by
  obtain ⟨a, e, _, wa⟩ := DataW.trod_int Try.underlying3 hf
  simp only [List.cons.injEq, and_true] at e
  subst e
  have b := bounds_i64 wa
  exact ⟨a, rfl, b.1, by omega⟩

/-- a Framed, by value -/
structure FramedIn (W : World) (K : Nat) (A : Option Addr) (n c : Nat) (l : List Nat) (A' : Option Addr) (n' c' : Nat) (l' : List Nat) (cut : Int) : Prop where
  kind : K < 256
  body : Byts W A n c l
  more : Byts W A' n' c' l'
  lo : -9223372036854775808 ≤ cut
  hi : cut < 9223372036854775808
/-- a Changed, by value -/
structure ChangedIn (W : World) (K : Nat) (A : Option Addr) (n c : Nat) (l : List Nat) (at_ : Int) (by_ : Nat) : Prop where
  kind : K < 256
  body : Byts W A n c l
  lo : -9223372036854775808 ≤ at_
  hi : at_ < 9223372036854775808
  byt : by_ < 256

theorem open_framed {base : Nat} {v : Value} {d : DataW H} {p : List MemPlace} (hv : Value.okWide Try.prog W .any base 35 v) (h : DataW.Trod enc Try.prog W 0 (fun _ => true) true 35 v d p)
    {ts : List TypeId} {ds : List (DataW H)} (_ : (DataW.weightsEach Try.prog ts ds).all (· ≤ reachBytes) = true) (j : Nat) (_ : ts[j]? = some 35) (_ : ds[j]? = some d) :
    ∃ K A n c l A' n' c' l' cut, v = .agg #[.int .u8 (K : Nat), .slice A n c, .slice A' n' c', .int .i64 cut] ∧ FramedIn W K A n c l A' n' c' l' cut := by
  obtain ⟨v0, v1, v2, v3, y0, y1, y2, y3, m, rfl, _, _, h0, h1, h2, h3⟩ := Joins.open_agg4 Try.underlying35 (by kernel_rfl) cells35 hv h
  obtain ⟨K, rfl, hK⟩ := u8_cell h0
  obtain ⟨A, n, c, l, rfl, b⟩ := byts_cell h1
  obtain ⟨A', n', c', l', rfl, b'⟩ := byts_cell h2
  obtain ⟨cut, rfl, lo, hi⟩ := i64_cell h3
  exact ⟨K, A, n, c, l, A', n', c', l', cut, rfl, hK, b, b', lo, hi⟩

theorem open_changed {base : Nat} {v : Value} {d : DataW H} {p : List MemPlace} (hv : Value.okWide Try.prog W .any base 38 v) (h : DataW.Trod enc Try.prog W 0 (fun _ => true) true 38 v d p)
    {ts : List TypeId} {ds : List (DataW H)} (_ : (DataW.weightsEach Try.prog ts ds).all (· ≤ reachBytes) = true) (j : Nat) (_ : ts[j]? = some 38) (_ : ds[j]? = some d) :
    ∃ K A n c l at_ by_, v = .agg #[.int .u8 (K : Nat), .slice A n c, .int .i64 at_, .int .u8 (by_ : Nat)] ∧ ChangedIn W K A n c l at_ by_ := by
  obtain ⟨v0, v1, v2, v3, y0, y1, y2, y3, m, rfl, _, _, h0, h1, h2, h3⟩ := Joins.open_agg4 Try.underlying38 (by kernel_rfl) cells38 hv h
  obtain ⟨K, rfl, hK⟩ := u8_cell h0
  obtain ⟨A, n, c, l, rfl, b⟩ := byts_cell h1
  obtain ⟨at_, rfl, lo, hi⟩ := i64_cell h2
  obtain ⟨by_, rfl, hb⟩ := u8_cell h3
  exact ⟨K, A, n, c, l, at_, by_, rfl, hK, b, lo, hi, hb⟩
end
end Go.Proofs.Ytfbiobglckjilaa
