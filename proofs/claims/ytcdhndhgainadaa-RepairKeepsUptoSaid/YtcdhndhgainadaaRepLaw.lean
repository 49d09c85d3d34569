/-
  Repair, plainly: trees with attributes and pieces of text; what the chapter makes of one.
-/
import Derived.Test.YtcdhndhgainadaaTreeLaw
namespace Go.Proofs.Ytcdhndhgainadaa
open Go Go.RowKit
set_option linter.unusedVariables false
set_option linter.unusedSimpArgs false

abbrev Att := ByteArray × ByteArray
abbrev Pce := ByteArray × List Att
/-- a node: its stamp, its kind, its attributes, its pieces of text, its kids -/
inductive RT where
  | node (n r : Int) (k : ByteArray) (at_ : List Att) (tx : List Pce) (ks : List RT)
def RT.kind : RT → ByteArray | .node _ _ k _ _ _ => k
def RT.kids : RT → List RT | .node _ _ _ _ _ ks => ks
def RT.kdOf (t : RT) : Kd := kd t.kind
mutual
def erase : RT → Tree
  | .node n r k at_ tx ks => .node n r k tx.length (eraseL ks)
def eraseL : List RT → List Tree
  | [] => []
  | t :: ts => erase t :: eraseL ts
end
theorem eraseL_map : ∀ ts : List RT, eraseL ts = ts.map erase
  | [] => by rw [eraseL]; rfl
  | t :: ts => by rw [eraseL, eraseL_map ts]; rfl
mutual
def rsize : RT → Nat
  | .node _ _ _ _ _ ks => 1 + rsizeL ks
def rsizeL : List RT → Nat
  | [] => 0
  | t :: ts => rsize t + rsizeL ts
end
theorem rsizeL_append (a b : List RT) : rsizeL (a ++ b) = rsizeL a + rsizeL b := by
  induction a with
  | nil => simp [rsizeL]
  | cons t ts ih => simp [rsizeL, ih]; omega
theorem rsizeL_len (l : List RT) : l.length ≤ rsizeL l := by
  induction l with
  | nil => simp
  | cons t ts ih =>
    obtain ⟨n, r, k, a, x, ks⟩ := t
    simp [rsizeL, rsize]; omega

/-- a made node -/
def mk (k : ByteArray) (ks : List RT) : RT := .node 0 0 k [] [] ks

/-! ### fit -/
/-- of which sort a node is under a parent: none: it may stay -/
inductive Srt | stay | other | item | row | cell
deriving DecidableEq
def srt (p : Kd) (k : Kd) : Srt :=
  if p.allows k then .stay
  else match p with
    | .list | .row => .other
    | .table => if k = .cell then .cell else .other
    | _ => match k with
      | .item => .item
      | .row => .row
      | _ => .cell
/-- the longest runs of one sort -/
def runsBy (f : RT → Srt) : List RT → List (Srt × List RT)
  | [] => []
  | t :: ts => match runsBy f ts with
    | (s, r) :: rest => if f t = s then (s, t :: r) :: rest else (f t, [t]) :: (s, r) :: rest
    | [] => [(f t, [t])]
/-- under a parent of flow -/
def wrapF (s : Srt) (run : List RT) : List RT := match s with
  | .stay => run
  | .item => [mk sList run]
  | .row => [mk sTable run]
  | _ => [mk sTable [mk sRow run]]
def fitF (l : List RT) : List RT := (runsBy (fun t => srt .doc t.kdOf) l).flatMap fun p => wrapF p.1 p.2
def wrapT (p : Kd) (s : Srt) (run : List RT) : List RT := match s with
  | .stay => run
  | _ => match p with
    | .list => [mk sItem (fitF run)]
    | .row => [mk sCell (fitF run)]
    | .table => if s = .cell then [mk sRow run] else [mk sRow [mk sCell (fitF run)]]
    | _ => wrapF s run
def fitT (p : Kd) (l : List RT) : List RT := (runsBy (fun t => srt p t.kdOf) l).flatMap fun q => wrapT p q.1 q.2

/-! ### nodes -/
def toldT (tx : List Pce) : List RT := if tx = [] then [] else [.node 0 0 sPara [] tx []]
def leastT : Kd → RT
  | .quote => mk sPara []
  | .list => mk sItem []
  | .table => mk sRow [mk sCell []]
  | _ => mk sCell []
def orLeast (k : Kd) (l : List RT) : List RT := if l = [] then [leastT k] else l
/-- what a node comes to, what its kids come to being K -/
def nodeK (n r : Int) (k : ByteArray) (at_ : List Att) (tx : List Pce) (K : List RT) : List RT := match kd k with
  | .item | .cell => [.node n r k at_ tx (fitT (kd k) K)]
  | .quote | .list | .table | .row => [.node n r k at_ [] (orLeast (kd k) (fitT (kd k) (toldT tx ++ K)))]
  | .para | .head => .node n r k at_ tx [] :: K
  | _ => .node n r sPara at_ tx [] :: K
mutual
def nodeT : RT → List RT
  | .node n r k at_ tx ks => nodeK n r k at_ tx (rowT ks)
def rowT : List RT → List RT
  | [] => []
  | t :: ts => nodeT t ++ rowT ts
end
def repairT : RT → RT
  | .node n r k at_ tx ks => .node n r sDoc at_ [] (toldT tx ++ fitT .doc (rowT ks))

theorem fitT_flow {p : Kd} (h : p = .doc ∨ p = .quote ∨ p = .item ∨ p = .cell) (l : List RT) : fitT p l = fitF l := by
  have e1 : ∀ k, srt p k = srt .doc k := fun k => by rcases h with rfl | rfl | rfl | rfl <;> cases k <;> rfl
  have e2 : ∀ s run, wrapT p s run = wrapF s run := fun s run => by rcases h with rfl | rfl | rfl | rfl <;> cases s <;> rfl
  unfold fitT fitF
  simp only [e1, e2]

/-! ### runs -/
theorem runsBy_flat (f : RT → Srt) : ∀ l : List RT, (runsBy f l).flatMap (·.2) = l
  | [] => rfl
  | t :: ts => by
    have ih := runsBy_flat f ts
    rw [runsBy]
    cases hr : runsBy f ts with
    | nil => rw [hr] at ih; simp at ih; simp [← ih]
    | cons p rest =>
      obtain ⟨s, r⟩ := p
      rw [hr] at ih
      simp only
      split
      · simpa using ih
      · simpa using ih
theorem runsBy_all (f : RT → Srt) : ∀ (l : List RT) (p : Srt × List RT), p ∈ runsBy f l → p.2 ≠ [] ∧ ∀ t ∈ p.2, f t = p.1
  | [], p, h => by cases h
  | t :: ts, p, h => by
    have ih := runsBy_all f ts
    rw [runsBy] at h
    cases hr : runsBy f ts with
    | nil =>
      rw [hr] at h
      simp at h
      subst h
      exact ⟨by simp, by simp⟩
    | cons q rest =>
      obtain ⟨s, r⟩ := q
      rw [hr] at h ih
      simp only at h
      split at h
      · rename_i hs
        rcases List.mem_cons.1 h with rfl | h
        · have := ih (s, r) (by simp)
          refine ⟨by simp, fun u hu => ?_⟩
          rcases List.mem_cons.1 hu with rfl | hu
          · exact hs
          · exact this.2 u hu
        · exact ih p (List.mem_cons_of_mem _ h)
      · rcases List.mem_cons.1 h with rfl | h
        · exact ⟨by simp, by simp⟩
        · exact ih p h
end Go.Proofs.Ytcdhndhgainadaa
