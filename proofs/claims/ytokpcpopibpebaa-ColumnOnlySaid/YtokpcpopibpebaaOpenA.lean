/-
  What the laws' arguments read as, over this program's types.
-/
import Derived.Test.YtokpcpopibpebaaOpen
import Derived.Test.YtokpcpopibpebaaPut
namespace Go.Proofs.Ytokpcpopibpebaa
open Go Go.ChangeShapes Go.WideShapes Go.RowKit

theorem own : ownKnob Try.prog.godebug = none := by kernel_rfl
theorem laidOut : laidOutB Try.prog = true := by kernel_rfl
theorem cells5 : Try.prog.cellsOf 5 = 1 := by kernel_rfl
theorem bytes5 : Try.prog.bytesOf 5 = 1 := by kernel_rfl

section
variable {H : Type} {enc : TypeId × Value → H} {W : World}
theorem open_u64 {base : Nat} {v : Value} {d : DataW H} {p : List MemPlace} (hv : Value.okWide Try.prog W .any base 22 v) (h : DataW.Trod enc Try.prog W 0 (fun _ => true) true 22 v d p) :
    ∃ n : Nat, v = .int .u64 n ∧ n < 18446744073709551616 := by
  obtain ⟨a, rfl, rfl, rfl, wa⟩ := open_int Try.underlying22 hv h
  have b := bounds_u64 wa
  obtain ⟨n, rfl⟩ := Int.eq_ofNat_of_zero_le b.1
  exact ⟨n, rfl, by omega⟩
theorem open_i64 {t : TypeId} (ht : Try.prog.underlying t = some (.int .i64)) {base : Nat} {v : Value} {d : DataW H} {p : List MemPlace} (hv : Value.okWide Try.prog W .any base t v) (h : DataW.Trod enc Try.prog W 0 (fun _ => true) true t v d p) :
    ∃ n : Int, v = .int .i64 n ∧ -9223372036854775808 ≤ n ∧ n < 9223372036854775808 := by
  obtain ⟨a, rfl, rfl, rfl, wa⟩ := open_int ht hv h
  have b := bounds_i64 wa
  exact ⟨a, rfl, b.1, by omega⟩

/-- a []byte that came in -/
structure Bytes (W : World) (A : Option Addr) (n c : Nat) (l : List Nat) : Prop where
  rd : Rd W W.heap.size 1 A n (by8 l)
  lt : ∀ x ∈ l, x < 256
  cap : n ≤ c
  max : c ≤ maxLen
  reach : n ≤ 140737488351232

theorem open_by8 {base : Nat} {v : Value} {d : DataW H} {p : List MemPlace} (hv : Value.okWide Try.prog W .any base 24 v) (h : DataW.Trod enc Try.prog W 0 (fun _ => true) true 24 v d p)
    {ts : List TypeId} {ds : List (DataW H)} (hsz : (DataW.weightsEach Try.prog ts ds).all (· ≤ reachBytes) = true) (j : Nat) (ht : ts[j]? = some 24) (hd : ds[j]? = some d) :
    ∃ A n c l, v = .slice A n c ∧ Bytes W A n c l := by
  obtain ⟨A, n, c, xs, rfl, hr, hc, hm, hdat, hel⟩ := open_slice_one Try.underlying24 cells5 hv h
  obtain ⟨zs, rfl, hw⟩ := list_nums Try.underlying5 xs hel
  obtain ⟨l, rfl⟩ := nums_nat zs (fun z hz => (bounds_u8 (hw z hz)).1)
  refine ⟨A, n, c, l, rfl, by simpa [by8, Function.comp_def] using hr, fun x hx => ?_, hc, hm, ?_⟩
  · have := (bounds_u8 (hw x (List.mem_map.2 ⟨x, hx, rfl⟩))).2
    omega
  · rcases hdat with ⟨_, h0⟩ | ⟨elems, spare, rfl, hlen⟩
    · omega
    · have := sized_slice hsz (j := j) (t := 24) (e := 5) ht hd Try.underlying24
      rw [bytes5] at this
      simp only [reachBytes] at this
      omega
end
end Go.Proofs.Ytokpcpopibpebaa
