/-
  Trees of nodes: how one lies in memory; its first fault, by definition.
-/
import Derived.Test.YtcdhndhgainadaaKindLaw
namespace Go.Proofs.Ytcdhndhgainadaa
open Go Go.RowKit

/-- a node: its stamp, its kind, how many pieces of text it has, its kids -/
inductive Tree where
  | node (n r : Int) (k : ByteArray) (tn : Nat) (ks : List Tree)

abbrev sRoot : ByteArray := ⟨#[114, 111, 111, 116]⟩
abbrev sKind : ByteArray := ⟨#[107, 105, 110, 100]⟩
abbrev sPlace : ByteArray := ⟨#[112, 108, 97, 99, 101]⟩
abbrev sText : ByteArray := ⟨#[116, 101, 120, 116]⟩
abbrev sEmpty : ByteArray := ⟨#[101, 109, 112, 116, 121]⟩

/-- what is amiss with a node itself -/
inductive Wy | root | kind | place | text | empty | fine
deriving DecidableEq
def Wy.str : Wy → ByteArray | .root => sRoot | .kind => sKind | .place => sPlace | .text => sText | .empty => sEmpty | .fine => sNone
def wy (root : Bool) (p k : Kd) (tn m : Nat) : Wy :=
  if root && k != .doc then .root else if !k.known then .kind else if !root && !p.allows k then .place else if decide (0 < tn) && !k.holds then .text else if k.needs && decide (m = 0) then .empty else .fine

mutual
/-- the first fault -/
def faultT (root : Bool) (p : Kd) : Tree → Int × Int × Wy
  | .node n r k tn ks => match wy root p (kd k) tn ks.length with
    | .fine => faultL (kd k) ks
    | y => (n, r, y)
def faultL (p : Kd) : List Tree → Int × Int × Wy
  | [] => (0, 0, .fine)
  | t :: ts => if (faultT false p t).2.2 = .fine then faultL p ts else faultT false p t
end

theorem faultT_amiss {root : Bool} {p : Kd} {n r : Int} {k : ByteArray} {tn : Nat} {ks : List Tree} (h : wy root p (kd k) tn ks.length ≠ .fine) :
    faultT root p (.node n r k tn ks) = (n, r, wy root p (kd k) tn ks.length) := by
  rw [faultT]
  split
  · next h1 => exact absurd h1 h
  · rfl
theorem faultT_fine {root : Bool} {p : Kd} {n r : Int} {k : ByteArray} {tn : Nat} {ks : List Tree} (h : wy root p (kd k) tn ks.length = .fine) :
    faultT root p (.node n r k tn ks) = faultL (kd k) ks := by
  rw [faultT, h]

/-- none of the first i has a fault -/
def CleanTo (p : Kd) (ks : List Tree) (i : Nat) : Prop := ∀ j t, j < i → ks[j]? = some t → (faultT false p t).2.2 = .fine
theorem CleanTo.zero (p : Kd) (ks : List Tree) : CleanTo p ks 0 := fun j t h => absurd h (by omega)
theorem CleanTo.succ {p : Kd} {ks : List Tree} {i : Nat} {t : Tree} (h : CleanTo p ks i) (ht : ks[i]? = some t) (hf : (faultT false p t).2.2 = .fine) : CleanTo p ks (i + 1) := fun j u hj hu => by
  rcases Nat.lt_or_ge j i with h1 | h1
  · exact h j u h1 hu
  · obtain rfl : j = i := by omega
    rw [ht] at hu; cases hu; exact hf
theorem faultL_hit {p : Kd} : ∀ {ks : List Tree} {i : Nat} {t : Tree}, CleanTo p ks i → ks[i]? = some t → (faultT false p t).2.2 ≠ .fine → faultL p ks = faultT false p t
  | [], i, t, _, ht, _ => by simp at ht
  | u :: us, 0, t, _, ht, hf => by
    simp at ht; subst ht
    rw [faultL, if_neg hf]
  | u :: us, i + 1, t, h, ht, hf => by
    rw [faultL, if_pos (h 0 u (Nat.succ_pos _) rfl)]
    exact faultL_hit (i := i) (fun j v hj hv => h (j + 1) v (by omega) (by simpa using hv)) (by simpa using ht) hf
theorem faultL_clean {p : Kd} : ∀ {ks : List Tree}, CleanTo p ks ks.length → faultL p ks = (0, 0, .fine)
  | [], _ => by rw [faultL]
  | u :: us, h => by
    rw [faultL, if_pos (h 0 u (by simp) rfl)]
    exact faultL_clean (fun j v hj hv => h (j + 1) v (by simpa using hj) (by simpa using hv))

/-- A NODE'S SIX CELLS READ AS A TREE, below block B. -/
inductive Nd (w : World) (B : Nat) : List Value → Tree → Prop
  | mk (n r : Int) (k : ByteArray) (AA : Option Addr) (an ac : Nat) (A : Option Addr) (c : Nat) (TA : Option Addr) (tn tc : Nat) (kc : Nat → List Value) (ks : List Tree)
      (hk : ks = [] ∨ ∃ b off, A = some ⟨b, off, none⟩ ∧ b < B ∧ ∀ i, i < ks.length → ∀ j u, (kc i)[j]? = some u → w.cell? ⟨b, off + (i * 6 + j), none⟩ = some u)
      (hkids : ∀ i t, ks[i]? = some t → Nd w B (kc i) t) (hcap : ks.length ≤ c) (hmax : c ≤ 9223372036854775807) (htn : tn ≤ 9223372036854775807) :
      Nd w B [.int .i64 n, .int .i64 r, .string k, .slice AA an ac, .slice TA tn tc, .slice A ks.length c] (.node n r k tn ks)

theorem Nd.keep {w w' : World} {B B' : Nat} {v : List Value} {t : Tree} (h : Nd w B v t) (hB : B ≤ B') (hw : ∀ p : Addr, p.block < B → w'.cell? p = w.cell? p) : Nd w' B' v t := by
  induction h with
  | mk n r k AA an ac A c TA tn tc kc ks hk hkids hcap hmax htn ih =>
    refine .mk n r k AA an ac A c TA tn tc kc ks (hk.imp id fun ⟨b, off, e, hb, hc⟩ => ⟨b, off, e, by omega, fun i hi j u hu => (hw _ hb).trans (hc i hi j u hu)⟩) ih hcap hmax htn

theorem Nd.beneath {w w' : World} {v : List Value} {t : Tree} {B : Nat} (h : Nd w B v t) (hb : Below B w w') : Nd w' B v t := h.keep (Nat.le_refl _) fun _ hp => hb.cell hp

/-- a block of its own, as it was made -/
def BoxN (w : World) (b : Nat) (vs : Array Value) (t : TypeId) : Prop := w.heap[b]? = some (.cells vs t (0, 0))
theorem BoxN.cell {w : World} {b : Nat} {vs : Array Value} {t : TypeId} (h : BoxN w b vs t) {j : Nat} {u : Value} (hu : vs[j]? = some u) : w.cell? ⟨b, j, none⟩ = some u := by
  simp [World.cell?, show w.heap[b]? = _ from h, hu]
theorem BoxN.frozen {w : World} {b : Nat} {vs : Array Value} {t : TypeId} (h : BoxN w b vs t) {j : Nat} : w.frozen? ⟨b, j, none⟩ = false := by
  simp [World.frozen?, show w.heap[b]? = _ from h]
theorem BoxN.lt {w : World} {b : Nat} {vs : Array Value} {t : TypeId} (h : BoxN w b vs t) : b < w.heap.size := (Array.getElem?_eq_some_iff.1 h).1
theorem BoxN.below {w w' : World} {b B : Nat} {vs : Array Value} {t : TypeId} (h : BoxN w b vs t) (hb : Below B w w') (hB : b < B) : BoxN w' b vs t := (hb.block b hB).trans h
theorem BoxN.set2 {w : World} {B : Nat} {t : TypeId} {a b : Value} (h : BoxN w B #[a, b] t) (v0 v1 : Value) : BoxN ((w.setCell ⟨B, 0, none⟩ v0).setCell ⟨B, 1, none⟩ v1) B #[v0, v1] t := by
  have s1 : ∀ (w : World) (j : Nat) (v : Value) (cs : Array Value), w.heap[B]? = some (.cells cs t (0, 0)) → (w.setCell ⟨B, j, none⟩ v).heap[B]? = some (.cells (cs.setIfInBounds j v) t (0, 0)) := by
    intro w j v cs hw
    obtain ⟨hlt, hk⟩ := Array.getElem?_eq_some_iff.1 hw
    show (w.heap.modify B _)[B]? = _
    rw [Array.getElem?_eq_getElem (by rw [Array.size_modify]; exact hlt), Array.getElem_modify_self, hk]
    rfl
  exact s1 _ 1 v1 _ (s1 w 0 v0 _ h)
theorem BoxN.made (w : World) (vs : Array Value) (t : TypeId) : BoxN (w.alloc (.cells vs t)) w.heap.size vs t := by unfold BoxN; show (w.heap.push _)[w.heap.size]? = _; simp
theorem BoxN.alloc {w : World} {b : Nat} {vs : Array Value} {t : TypeId} (h : BoxN w b vs t) (o : Obj) : BoxN (w.alloc o) b vs t := (Below.heap_alloc _ _ _ h.lt).trans h
end Go.Proofs.Ytcdhndhgainadaa
