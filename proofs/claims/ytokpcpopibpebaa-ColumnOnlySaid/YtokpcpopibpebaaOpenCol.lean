/-
  Lists of numbers and of truths that came in.
-/
import Derived.Test.YtokpcpopibpebaaOpenA
import Derived.Test.YtokpcpopibpebaaColPlain2
import Derived.Test.YtokpcpopibpebaaIterB
import Derived.Test.YtokpcpopibpebaaIterI
namespace Go.Proofs.Ytokpcpopibpebaa
open Go Go.ChangeShapes Go.WideShapes Go.RowKit

theorem cells3 : Try.prog.cellsOf 3 = 1 := by kernel_rfl
theorem cells4 : Try.prog.cellsOf 4 = 1 := by kernel_rfl
theorem bytes3 : Try.prog.bytesOf 3 = 8 := by kernel_rfl
theorem bytes4 : Try.prog.bytesOf 4 = 1 := by kernel_rfl

structure Ints (W : World) (A : Option Addr) (n c : Nat) (l : List Int) : Prop where
  rd : Rd W W.heap.size 1 A n (i64s l)
  inI : ∀ x ∈ l, InI x
  cap : n ≤ c
  max : c ≤ maxLen
  reach : n ≤ 140737488351232
structure Truths (W : World) (A : Option Addr) (n c : Nat) (l : List Bool) : Prop where
  rd : Rd W W.heap.size 1 A n (bls l)
  cap : n ≤ c
  max : c ≤ maxLen
  reach : n ≤ 140737488351232
theorem Ints.len {W : World} {A : Option Addr} {n c : Nat} {l : List Int} (h : Ints W A n c l) : l.length = n := by have := h.rd.len1; rwa [i64s_len] at this
theorem Truths.len {W : World} {A : Option Addr} {n c : Nat} {l : List Bool} (h : Truths W A n c l) : l.length = n := by have := h.rd.len1; rwa [bls_len] at this
theorem Bytes.len {W : World} {A : Option Addr} {n c : Nat} {l : List Nat} (h : Bytes W A n c l) : l.length = n := by have := h.rd.len1; rwa [by8_len] at this

section
variable {H : Type} {enc : TypeId × Value → H} {W : World}
theorem open_ints {base : Nat} {v : Value} {d : DataW H} {p : List MemPlace} (hv : Value.okWide Try.prog W .any base 38 v) (h : DataW.Trod enc Try.prog W 0 (fun _ => true) true 38 v d p)
    {ts : List TypeId} {ds : List (DataW H)} (hsz : (DataW.weightsEach Try.prog ts ds).all (· ≤ reachBytes) = true) (j : Nat) (ht : ts[j]? = some 38) (hd : ds[j]? = some d) :
    ∃ A n c l, v = .slice A n c ∧ Ints W A n c l := by
  obtain ⟨A, n, c, xs, rfl, hr, hc, hm, hdat, hel⟩ := open_slice_one Try.underlying38 cells3 hv h
  obtain ⟨zs, rfl, hw⟩ := list_nums Try.underlying3 xs hel
  refine ⟨A, n, c, zs, rfl, hr, fun x hx => ?_, hc, hm, ?_⟩
  · have := bounds_i64 (hw x hx)
    exact ⟨this.1, by omega⟩
  · rcases hdat with ⟨_, h0⟩ | ⟨elems, spare, rfl, hlen⟩
    · omega
    · have := sized_slice hsz (j := j) (t := 38) (e := 3) ht hd Try.underlying38
      rw [bytes3] at this
      simp only [reachBytes] at this
      omega
theorem open_bools {base : Nat} {v : Value} {d : DataW H} {p : List MemPlace} (hv : Value.okWide Try.prog W .any base 39 v) (h : DataW.Trod enc Try.prog W 0 (fun _ => true) true 39 v d p)
    {ts : List TypeId} {ds : List (DataW H)} (hsz : (DataW.weightsEach Try.prog ts ds).all (· ≤ reachBytes) = true) (j : Nat) (ht : ts[j]? = some 39) (hd : ds[j]? = some d) :
    ∃ A n c l, v = .slice A n c ∧ Truths W A n c l := by
  obtain ⟨A, n, c, xs, rfl, hr, hc, hm, hdat, hel⟩ := open_slice_one Try.underlying39 cells4 hv h
  obtain ⟨zs, rfl⟩ := list_bools Try.underlying4 xs hel
  refine ⟨A, n, c, zs, rfl, hr, hc, hm, ?_⟩
  rcases hdat with ⟨_, h0⟩ | ⟨elems, spare, rfl, hlen⟩
  · omega
  · have := sized_slice hsz (j := j) (t := 39) (e := 4) ht hd Try.underlying39
    rw [bytes4] at this
    simp only [reachBytes] at this
    omega
end
end Go.Proofs.Ytokpcpopibpebaa
