/-
  The walks of varint.Put and of the reference's Put: each hands back the bytes V.put n, in new memory.
-/
import Derived.Test.YtokpcpopibpebaaProg
import Derived.Test.YtokpcpopibpebaaKit
import Derived.Test.YtokpcpopibpebaaBits
import Derived.Test.YtokpcpopibpebaaVarintLaw
namespace Go.Proofs.Ytokpcpopibpebaa
open Go Go.RowKit

theorem info5 : (Try.prog.info? 5).map (fun i => (i.zero, i.size, i.bytes)) = some (some (.int .u8 0), 1, 1) := by kernel_rfl

/-- bytes, as cells -/
def by8 (l : List Nat) : List Value := l.map fun (x : Nat) => Value.int .u8 (x : Int)
theorem by8_len (l : List Nat) : (by8 l).length = l.length := by simp [by8]
theorem by8_append (l r : List Nat) : by8 (l ++ r) = by8 l ++ by8 r := by simp [by8]

/-- WHAT A CALL MADE: a new slice of bytes; below the heap's old size nothing has turned. -/
def Made8 (xs : List Nat) (w : World) (e : Ending) (w' : World) : Prop :=
  ∃ A c, e = .returned (.slice A xs.length c) ∧ w'.ownsRow w.heap.size 5 1 (.slice A xs.length c) xs.length (by8 xs) ∧ Below w.heap.size w w'

theorem Made8.mk {xs : List Nat} {w w1 : World} {A : Option Addr} {n c : Nat} {cells : List Value} {e : Ending} (he : e = .returned (.slice A n c))
    (hown : w1.ownsRow w.heap.size 5 1 (.slice A n c) n cells) (hB : Below w.heap.size w w1) (hc : cells = by8 xs) : Made8 xs w e w1 := by
  subst hc
  have hn : n = xs.length := by simpa [by8_len] using hown.1.symm
  subst hn
  exact ⟨A, c, he, hown, hB⟩

def PutRel (w : World) (n : Nat) (v t : Value) (wr : World) : Prop :=
  ∃ (m : Nat) (pre : List Nat) (A : Option Addr) (c : Nat), t = .int .u64 m ∧ v = .slice A pre.length c ∧ wr.ownsRow w.heap.size 5 1 (.slice A pre.length c) pre.length (by8 pre) ∧ Below w.heap.size w wr ∧
    V.put n = pre ++ V.put m ∧ m ≤ n

theorem PutRel.step {w w1 : World} {n m : Nat} {pre : List Nat} {A' : Option Addr} {c' : Nat} {y z : Int} (hy : y = ((m % 128 + 128 : Nat) : Int)) (hz : z = ((m / 128 : Nat) : Int)) (HP : V.put n = pre ++ V.put m) (hm : m ≤ n) (h : 128 ≤ m)
    (hown : w1.ownsRow w.heap.size 5 1 (.slice A' (pre.length + 1) c') (pre.length + 1) (by8 pre ++ [.int .u8 y])) (hB : Below w.heap.size w w1) :
    PutRel w n (.slice A' (pre.length + 1) c') (.int .u64 z) w1 := by
  subst hy hz
  exact ⟨m / 128, pre ++ [m % 128 + 128], A', c', rfl, by simp, by simpa [by8] using hown, hB, by rw [HP, V.put_ge h]; simp, by omega⟩

set_option maxRecDepth 100000 in
theorem put_any (n : Nat) (w : World) (hn : n < 18446744073709551616) : Calls Try.prog 17 #[.int .u64 n] w (Made8 (V.put n) w) := by
  have hlen := V.put_length_ten hn
  clear hn
  go_enter Try.func17, Try.ntmps17
  go_wp2
  go_loopw [0, 3] (fun t v wr => PutRel w n v t wr) (fun t _ _ => (intOf t).toNat)
  case atStart => exact ⟨n, [], none, 0, rfl, rfl, World.ownsRow_nil _ _ _ _, Below.refl _ _, rfl, Nat.le_refl _⟩
  case round =>
    obtain ⟨m, pre, A, c, rfl, rfl, hown, hB, hp, hm⟩ := hrel
    have HP := Lib.hid hp
    clear hp
    have hpl : pre.length + (V.put m).length ≤ 10 := by have := congrArg List.length HP.out; simp at this; omega
    have hpos := V.put_length_pos m
    by_cases h128 : 128 ≤ m
    · have he := u8_or128_mod m
      go_wp2_with (at_builtin; refine wpList_app1 _ rfl _ _ 24 rfl w w.heap.size 5 (.int .u8 0) 1 Try.underlying24 info5 rfl wr _ rfl rfl _ _ _ rfl hown rfl (by unfold maxLen; omega) (by omega) hB (Nat.le_refl _) ?_)
      intro A' c' w1 hown1 hg1 hB1
      go_wp2
      go_roundw
      case rel => exact PutRel.step (by omega) (by omega) HP.out hm h128 hown1 hB1
      case measure => simp [intOf]; omega
    · go_wp2_with (at_builtin; refine wpList_app1 _ rfl _ _ 24 rfl w w.heap.size 5 (.int .u8 0) 1 Try.underlying24 info5 rfl wr _ rfl rfl _ _ _ rfl hown rfl (by unfold maxLen; omega) (by omega) hB (Nat.le_refl _) ?_)
      intro A' c' w1 hown1 hg1 hB1
      go_wp2
      go_ret
      exact Made8.mk rfl hown1 hB1 (by rw [HP.out, V.put_lt (by omega)]; simp [by8])

set_option maxRecDepth 100000 in
theorem rput_any (n : Nat) (w : World) (hn : n < 18446744073709551616) : Calls Try.prog 18 #[.int .u64 n] w (Made8 (V.put n) w) := by
  have hlen := V.put_length_ten hn
  have Hn := Lib.hid hn
  clear hn
  go_enter Try.func18, Try.ntmps18
  go_wp2
  go_loopw [0, 3] (fun t v wr => PutRel w n v t wr) (fun t _ _ => (intOf t).toNat)
  case atStart => exact ⟨n, [], none, 0, rfl, rfl, World.ownsRow_nil _ _ _ _, Below.refl _ _, rfl, Nat.le_refl _⟩
  case round =>
    obtain ⟨m, pre, A, c, rfl, rfl, hown, hB, hp, hm⟩ := hrel
    have HP := Lib.hid hp
    clear hp
    have hpl : pre.length + (V.put m).length ≤ 10 := by have := congrArg List.length HP.out; simp at this; omega
    have hpos := V.put_length_pos m
    by_cases h128 : 128 ≤ m
    · have hw : IntKind.u64.wrap ((m : Int) / 128) = (m : Int) / 128 := u64_wrap_of _ (by omega) (by have := Hn.out; omega)
      go_wp2_with (at_builtin; refine wpList_app1 _ rfl _ _ 24 rfl w w.heap.size 5 (.int .u8 0) 1 Try.underlying24 info5 rfl wr _ rfl rfl _ _ _ rfl hown rfl (by unfold maxLen; omega) (by omega) hB (Nat.le_refl _) ?_)
      intro A' c' w1 hown1 hg1 hB1
      go_wp2
      go_roundw
      case rel => exact PutRel.step (by omega) (by omega) HP.out hm h128 hown1 hB1
      case measure => simp [intOf]; omega
    · go_wp2_with (at_builtin; refine wpList_app1 _ rfl _ _ 24 rfl w w.heap.size 5 (.int .u8 0) 1 Try.underlying24 info5 rfl wr _ rfl rfl _ _ _ rfl hown rfl (by unfold maxLen; omega) (by omega) hB (Nat.le_refl _) ?_)
      intro A' c' w1 hown1 hg1 hB1
      go_wp2
      go_ret
      exact Made8.mk rfl hown1 hB1 (by rw [HP.out, V.put_lt (by omega)]; simp [by8])
end Go.Proofs.Ytokpcpopibpebaa
