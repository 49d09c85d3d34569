/-
  What region 4 of GrammarKid leaves.
-/
import Derived.Test.YtcdhndhgainadaaAppD
import Derived.Test.YtcdhndhgainadaaDropN
namespace Go.Proofs.Ytcdhndhgainadaa
open Go Go.RowKit
set_option linter.unusedVariables false

/-- what region 4 leaves: m's block holds the node with one kid more -/
structure KidCut (W : World) (pm : Nat) (uv : Array Value) (n r : Int) (k : ByteArray) (AA : Option Addr) (an ac : Nat) (TA : Option Addr) (tn tc m : Nat) (T : Tree) (wx : World) : Prop where
  below : Below W.heap.size W wx
  kid : BoxN wx (W.heap.size + 1) uv 31
  made : ∃ (A : Option Addr) (c : Nat), BoxN wx pm #[.int .i64 n, .int .i64 r, .string k, .slice AA an ac, .slice TA tn tc, .slice A (m + 1) c] 31 ∧ Nd wx wx.heap.size [.int .i64 n, .int .i64 r, .string k, .slice AA an ac, .slice TA tn tc, .slice A (m + 1) c] T


theorem kid_cut {W wd w6 : World} {pm : Nat} {un ur : Int} {uk : ByteArray} {uAA : Option Addr} {uan uac : Nat} {uTA : Option Addr} {utn utc : Nat} {uA : Option Addr} {um uc : Nat} {n r : Int} {k : ByteArray} {AA : Option Addr} {an ac : Nat} {TA : Option Addr} {tn tc : Nat} {A A6 : Option Addr} {m c c6 : Nat} {zs : List Nz} {ks : List Tree} {u : Tree}
    (hD : Below W.heap.size W wd) (hY : BoxN wd (W.heap.size + 1) #[.int .i64 un, .int .i64 ur, .string uk, .slice uAA uan uac, .slice uTA utn utc, .slice uA um uc] 31) (hyl : W.heap.size + 1 < wd.heap.size) (hpl : pm < wd.heap.size) (hpw : W.heap.size + 1 < pm)
    (o6 : w6.ownsRow wd.heap.size 31 6 (.slice A6 (m + 1) c6) (m + 1) (zcells zs ++ [.int .i64 un, .int .i64 ur, .string uk, .slice uAA uan uac, .slice uTA utn utc, .slice uA um uc])) (b6 : Below wd.heap.size wd.drew w6)
    (m6 : BoxN w6 pm #[.int .i64 n, .int .i64 r, .string k, .slice AA an ac, .slice TA tn tc, .slice A m c] 31) (hz : ∀ z ∈ zs, Nd W W.heap.size z.1.1 z.1.2) (hzt : ztrees zs = ks) (hzl : zs.length = m)
    (hn : Nd W W.heap.size [.int .i64 un, .int .i64 ur, .string uk, .slice uAA uan uac, .slice uTA utn utc, .slice uA um uc] u) (htn : tn ≤ 9223372036854775807) :
    KidCut W pm #[.int .i64 un, .int .i64 ur, .string uk, .slice uAA uan uac, .slice uTA utn utc, .slice uA um uc] n r k AA an ac TA tn tc m (.node n r k tn (ks ++ [u])) (w6.setCell ⟨pm, 5, none⟩ (.slice A6 (m + 1) c6)) := by
  have hb : Below W.heap.size W (w6.setCell ⟨pm, 5, none⟩ (.slice A6 (m + 1) c6)) := (hD.drew.trans (b6.mono hD.size)).setCell (p := ⟨pm, 5, none⟩) (Nat.le_of_lt (Nat.lt_of_succ_lt hpw)) _
  obtain ⟨g, hA, hg1, hg2⟩ := own_addr o6 (Nat.succ_pos m)
  obtain ⟨hc1, hc2⟩ := own_cap o6
  have hsz : (w6.setCell ⟨pm, 5, none⟩ (.slice A6 (m + 1) c6)).heap.size = w6.heap.size := by simp [World.setCell]
  refine ⟨hb, (hY.below (w := wd.drew) b6 hyl).farD (p := ⟨pm, 5, none⟩) (Nat.ne_of_lt hpw) _, A6, c6, m6.setAt 5 _, ?_⟩
  have hr := Rd.of_own o6
  have e1 : zcells (zs ++ [⟨([.int .i64 un, .int .i64 ur, .string uk, .slice uAA uan uac, .slice uTA utn utc, .slice uA um uc], u), rfl⟩]) = zcells zs ++ [.int .i64 un, .int .i64 ur, .string uk, .slice uAA uan uac, .slice uTA utn utc, .slice uA um uc] := by simp [zcells]
  have e2 : ztrees (zs ++ [⟨([.int .i64 un, .int .i64 ur, .string uk, .slice uAA uan uac, .slice uTA utn utc, .slice uA um uc], u), rfl⟩]) = ks ++ [u] := by rw [← hzt]; simp [ztrees]
  have hrd : Rd (w6.setCell ⟨pm, 5, none⟩ (.slice A6 (m + 1) c6)) w6.heap.size 6 A6 (m + 1) (zcells (zs ++ [⟨([.int .i64 un, .int .i64 ur, .string uk, .slice uAA uan uac, .slice uTA utn utc, .slice uA um uc], u), rfl⟩])) := by
    rw [e1]
    refine ⟨hr.1, .inr ?_⟩
    obtain ⟨b, off, hA2, hb2, hc⟩ := hr.at_ (Nat.succ_pos m)
    rw [hA] at hA2
    injection hA2 with hA2
    injection hA2 with hA2 hA3
    subst hA2 hA3
    refine ⟨g, 0, hA, hg2, fun j v hv => ?_⟩
    rw [← hc j v hv]
    have : (w6.setCell ⟨pm, 5, none⟩ (.slice A6 (m + 1) c6)).heap[g]? = w6.heap[g]? := Below.heap_setCell _ _ _ _ (by simp; omega)
    simp only [World.cell?, this]
  have hall : ∀ z ∈ zs ++ [(⟨([.int .i64 un, .int .i64 ur, .string uk, .slice uAA uan uac, .slice uTA utn utc, .slice uA um uc], u), rfl⟩ : Nz)], Nd (w6.setCell ⟨pm, 5, none⟩ (.slice A6 (m + 1) c6)) w6.heap.size z.1.1 z.1.2 := by
    have hle : W.heap.size ≤ w6.heap.size := by have := hb.size; rw [hsz] at this; exact this
    intro z hz2
    rcases List.mem_append.1 hz2 with h | h
    · exact (hz z h).keep hle fun p hp => hb.cell hp
    · simp at h; subst h; exact hn.keep hle fun p hp => hb.cell hp
  have := Nd.of_rd n r k AA an ac TA tn tc hrd (by simp [hzl]) hall hc1 (by simpa [maxLen] using hc2) htn
  rw [e2] at this
  rw [hsz]
  exact this
end Go.Proofs.Ytcdhndhgainadaa
