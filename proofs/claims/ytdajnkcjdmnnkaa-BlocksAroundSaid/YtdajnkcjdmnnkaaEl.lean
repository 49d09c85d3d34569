/-
  A text's elements and its pieces, as data; as cells; the contract of boundary.
-/
import Derived.Test.YtdajnkcjdmnnkaaKit
import Derived.Test.YtdajnkcjdmnnkaaProg
import Derived.Deep.QuietTactic
import Derived.BigQuiet
import Derived.WalkSmall
namespace Go.Proofs.Ytdajnkcjdmnnkaa
open Go Go.RowKit
set_option linter.unusedVariables false

/-- an element -/
structure El where
  n : Int
  r : Int
  ch : Int
  gone : Bool
/-- a piece -/
structure Sp where
  n : Int
  r : Int
  f : Int
  t : Int

def El.cells (e : El) : List Value := [.int .i64 e.n, .int .i64 e.r, .int .i64 e.ch, .bool e.gone]
def El.val (e : El) : Value := .agg #[.int .i64 e.n, .int .i64 e.r, .int .i64 e.ch, .bool e.gone]
def Sp.cells (s : Sp) : List Value := [.int .i64 s.n, .int .i64 s.r, .int .i64 s.f, .int .i64 s.t]
def Sp.val (s : Sp) : Value := .agg #[.int .i64 s.n, .int .i64 s.r, .int .i64 s.f, .int .i64 s.t]
def els (l : List El) : List Value := l.flatMap El.cells
def sps (l : List Sp) : List Value := l.flatMap Sp.cells

def bnd (e : El) : Bool := decide (e.ch = 0) && !e.gone

theorem els_len : ∀ l : List El, (els l).length = l.length * 4
  | [] => rfl
  | e :: l => by simp only [els, List.flatMap_cons, List.length_append, List.length_cons] at *; have := els_len l; unfold els at this; rw [this]; simp [El.cells]; omega
theorem sps_len : ∀ l : List Sp, (sps l).length = l.length * 4
  | [] => rfl
  | e :: l => by simp only [sps, List.flatMap_cons, List.length_append, List.length_cons] at *; have := sps_len l; unfold sps at this; rw [this]; simp [Sp.cells]; omega

set_option maxHeartbeats 1000000 in
theorem boundary_any (w : World) (n r ch : Int) (g : Bool) : Calls Try.prog 21 #[.agg #[.int .i64 n, .int .i64 r, .int .i64 ch, .bool g]] w fun e w' => e = .returned (.bool (bnd ⟨n, r, ch, g⟩)) ∧ Below w.heap.size w w' := by
  by_cases hc : ch = 0
  · subst hc
    go_enter Try.func21, Try.ntmps21
    go_wp2_with fail
    go_ret
    exact ⟨by simp [bnd], (Below.refl _ w).alloc (Nat.le_refl _) _⟩
  · have g1 : (ch == 0) = false := by simpa using hc
    go_enter Try.func21, Try.ntmps21
    go_wp2_with fail
    go_ret
    exact ⟨by simp [bnd, hc], (Below.refl _ w).alloc (Nat.le_refl _) _⟩
end Go.Proofs.Ytdajnkcjdmnnkaa
