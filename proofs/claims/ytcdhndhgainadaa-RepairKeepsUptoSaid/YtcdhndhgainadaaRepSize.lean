/-
  It does not grow much.
-/
import Derived.Test.YtcdhndhgainadaaRepStay
namespace Go.Proofs.Ytcdhndhgainadaa
open Go Go.RowKit
set_option linter.unusedVariables false
set_option linter.unusedSimpArgs false

def srtCost : Srt → Nat | .stay => 0 | .item => 1 | .row => 1 | _ => 2
def cF (k : Kd) : Nat := srtCost (srt .doc k)
def sumK (c : Kd → Nat) (l : List RT) : Nat := (l.map fun t => c t.kdOf).sum
theorem sumK_cons (c : Kd → Nat) (t : RT) (l : List RT) : sumK c (t :: l) = c t.kdOf + sumK c l := by simp [sumK]
theorem sumK_nil (c : Kd → Nat) : sumK c [] = 0 := rfl
theorem sumK_append (c : Kd → Nat) (a b : List RT) : sumK c (a ++ b) = sumK c a + sumK c b := by simp [sumK]
theorem sumK_runs (c : Kd → Nat) (f : RT → Srt) (l : List RT) : ((runsBy f l).map fun p => sumK c p.2).sum = sumK c l := by
  have h : ∀ ps : List (Srt × List RT), (ps.map fun p => sumK c p.2).sum = sumK c (ps.flatMap (·.2)) := by
    intro ps
    induction ps with
    | nil => rfl
    | cons p ps ih => rw [List.map_cons, List.sum_cons, List.flatMap_cons, sumK_append, ih]
  rw [h, runsBy_flat]
theorem sumK_ge {c : Kd → Nat} {m : Nat} : ∀ {l : List RT}, (∀ t ∈ l, m ≤ c t.kdOf) → l ≠ [] → m ≤ sumK c l
  | [], _, h => absurd rfl h
  | t :: ts, h, _ => by
    rw [sumK_cons]
    have := h t (by simp)
    omega
theorem sumK_le {c d : Kd → Nat} (h : ∀ k, c k ≤ d k) : ∀ l : List RT, sumK c l ≤ sumK d l
  | [] => by simp [sumK]
  | t :: ts => by rw [sumK_cons, sumK_cons]; have := h t.kdOf; have := sumK_le h ts; omega
theorem rsize_mk (k : ByteArray) (ks : List RT) : rsize (mk k ks) = 1 + rsizeL ks := by rw [mk, rsize]
theorem rsizeL_one (t : RT) : rsizeL [t] = rsize t := by simp [rsizeL]
theorem map_add {α : Type} (f g : α → Nat) (l : List α) : (l.map fun x => f x + g x).sum = (l.map f).sum + (l.map g).sum := by
  induction l with
  | nil => rfl
  | cons x xs ih => simp only [List.map_cons, List.sum_cons, ih]; omega

theorem fitF_size (l : List RT) : rsizeL (fitF l) ≤ rsizeL l + sumK cF l := by
  have h := rsizeL_flatMap (fun p : Srt × List RT => wrapF p.1 p.2) (fun p => rsizeL p.2 + sumK cF p.2) (runsBy (fun t => srt .doc t.kdOf) l) (fun p hp => by
    obtain ⟨s, run⟩ := p
    obtain ⟨hne, hall⟩ := runsBy_all _ l _ hp
    simp only at hne hall ⊢
    have hc : ∀ t ∈ run, cF t.kdOf = srtCost s := fun t ht => by unfold cF; rw [hall t ht]
    cases s with
    | stay => simp [wrapF]
    | item => have := sumK_ge (c := cF) (m := 1) (fun t ht => by rw [hc t ht]; exact Nat.le_refl _) hne; simp only [wrapF, rsizeL_one, rsize_mk]; omega
    | row => have := sumK_ge (c := cF) (m := 1) (fun t ht => by rw [hc t ht]; exact Nat.le_refl _) hne; simp only [wrapF, rsizeL_one, rsize_mk]; omega
    | other => have := sumK_ge (c := cF) (m := 2) (fun t ht => by rw [hc t ht]; exact Nat.le_refl _) hne; simp only [wrapF, rsizeL_one, rsize_mk]; omega
    | cell => have := sumK_ge (c := cF) (m := 2) (fun t ht => by rw [hc t ht]; exact Nat.le_refl _) hne; simp only [wrapF, rsizeL_one, rsize_mk]; omega)
  rw [map_add, rsizeL_runs, sumK_runs] at h
  exact h

def cT (p k : Kd) : Nat := if p.allows k then 0 else 1 + cF k
theorem fitT_size {p : Kd} (hp : p = .list ∨ p = .row) (l : List RT) : rsizeL (fitT p l) ≤ rsizeL l + sumK (cT p) l := by
  have h := rsizeL_flatMap (fun q : Srt × List RT => wrapT p q.1 q.2) (fun q => rsizeL q.2 + sumK (cT p) q.2) (runsBy (fun t => srt p t.kdOf) l) (fun q hq => by
    obtain ⟨s, run⟩ := q
    obtain ⟨hne, hall⟩ := runsBy_all _ l _ hq
    simp only at hne hall ⊢
    by_cases hs : s = .stay
    · subst hs; rw [wrapT_stay]; omega
    · have hc : ∀ t ∈ run, cT p t.kdOf = 1 + cF t.kdOf := fun t ht => by
        have := hall t ht
        unfold cT
        rw [if_neg]
        intro ha
        unfold srt at this
        rw [if_pos ha] at this
        exact hs this.symm
      have h2 : 1 + sumK cF run ≤ sumK (cT p) run := by
        have h3 : ∀ r : List RT, (∀ t ∈ r, cT p t.kdOf = 1 + cF t.kdOf) → sumK (cT p) r = r.length + sumK cF r := by
          intro r hr
          induction r with
          | nil => rfl
          | cons u us ih => rw [sumK_cons, sumK_cons, hr u (by simp), ih (fun x hx => hr x (List.mem_cons_of_mem _ hx)), List.length_cons]; omega
        rw [h3 run hc]
        have : 1 ≤ run.length := by cases run with | nil => exact absurd rfl hne | cons _ _ => simp
        omega
      have h4 := fitF_size run
      rcases hp with rfl | rfl
      · have e : wrapT .list s run = [mk sItem (fitF run)] := by cases s <;> first | rfl | exact absurd rfl hs
        rw [e, rsizeL_one, rsize_mk]; omega
      · have e : wrapT .row s run = [mk sCell (fitF run)] := by cases s <;> first | rfl | exact absurd rfl hs
        rw [e, rsizeL_one, rsize_mk]; omega)
  rw [map_add, rsizeL_runs, sumK_runs] at h
  exact h

/-- how many runs of others -/
def oth (ps : List (Srt × List RT)) : Nat := (ps.map fun p => if p.1 = .other then 1 else 0).sum
theorem oth_le (f : RT → Srt) : ∀ l : List RT, oth (runsBy f l) ≤ (l.map fun t => if f t = .other then 0 else 1).sum + (match runsBy f l with | (.other, _) :: _ => 1 | _ => 0)
  | [] => by simp [runsBy, oth]
  | t :: ts => by
    have ih := oth_le f ts
    rw [runsBy]
    cases hr : runsBy f ts with
    | nil =>
      rw [hr] at ih
      simp only [List.map_cons, List.sum_cons]
      by_cases h : f t = .other
      · simp [oth, h]
      · cases hf : f t <;> simp [oth, hf] at h ⊢
    | cons p rest =>
      obtain ⟨s, r⟩ := p
      rw [hr] at ih
      simp only [List.map_cons, List.sum_cons] at ih ⊢
      by_cases h : f t = s
      · rw [if_pos h]
        subst h
        have e : oth ((f t, t :: r) :: rest) = oth ((f t, r) :: rest) := by simp [oth]
        rw [e]
        cases hf : f t <;> simp [hf] at ih ⊢ <;> omega
      · rw [if_neg h]
        have e : oth ((f t, [t]) :: (s, r) :: rest) = (if f t = .other then 1 else 0) + oth ((s, r) :: rest) := by simp [oth]
        rw [e]
        by_cases h2 : f t = .other
        · have h3 : s ≠ .other := fun e => h (h2.trans e.symm)
          cases s <;> simp [h2] at ih h3 ⊢ <;> omega
        · cases hf : f t <;> rw [hf] at h2 <;> simp at h2 ⊢ <;> cases s <;> simp at ih ⊢ <;> omega
def cTab (k : Kd) : Nat := match srt .table k with | .other => cF k | .stay => 2 | _ => 3
theorem fitTab_size (l : List RT) : rsizeL (fitT .table l) ≤ rsizeL l + sumK cTab l + 2 := by
  have h := rsizeL_flatMap (fun q : Srt × List RT => wrapT .table q.1 q.2) (fun q => (rsizeL q.2 + sumK (fun k => match srt .table k with | .other => cF k | .stay => 0 | _ => 1) q.2) + 2 * (if q.1 = .other then 1 else 0)) (runsBy (fun t => srt .table t.kdOf) l) (fun q hq => by
    obtain ⟨s, run⟩ := q
    obtain ⟨hne, hall⟩ := runsBy_all _ l _ hq
    simp only at hne hall ⊢
    have hsrt : s = .stay ∨ s = .cell ∨ s = .other := by
      obtain ⟨u, hu⟩ := List.exists_mem_of_ne_nil run hne
      have := hall u hu
      rw [← this]
      cases u.kdOf <;> simp [srt, Kd.allows]
    rcases hsrt with rfl | rfl | rfl
    · rw [wrapT_stay]; omega
    · have e : wrapT .table .cell run = [mk sRow run] := rfl
      have := sumK_ge (c := fun k => match srt .table k with | .other => cF k | .stay => 0 | _ => 1) (m := 1) (fun t ht => by simp only [hall t ht]; exact Nat.le_refl _) hne
      rw [e, rsizeL_one, rsize_mk]; omega
    · have e : wrapT .table .other run = [mk sRow [mk sCell (fitF run)]] := rfl
      have h4 := fitF_size run
      have h5 : ∀ r : List RT, (∀ t ∈ r, srt .table t.kdOf = .other) → sumK (fun k => match srt .table k with | .other => cF k | .stay => 0 | _ => 1) r = sumK cF r := by
        intro r hr
        induction r with
        | nil => rfl
        | cons u us ih => rw [sumK_cons, sumK_cons, ih (fun x hx => hr x (List.mem_cons_of_mem _ hx))]; simp only [hr u (by simp)]
      rw [e, rsizeL_one, rsize_mk, rsizeL_one, rsize_mk, h5 run hall]
      simp only [if_true]
      omega)
  rw [map_add, map_add, rsizeL_runs, sumK_runs] at h
  have h2 : ∀ ps : List (Srt × List RT), (ps.map fun q => 2 * (if q.1 = .other then 1 else 0)).sum = 2 * oth ps := by
    intro ps
    induction ps with
    | nil => rfl
    | cons p ps ih => simp only [List.map_cons, List.sum_cons, oth] at ih ⊢; omega
  rw [h2] at h
  have h3 := oth_le (fun t => srt .table t.kdOf) l
  have h4 : (match runsBy (fun t => srt .table t.kdOf) l with | (.other, _) :: _ => 1 | _ => 0) ≤ 1 := by split <;> omega
  have h5 : ∀ r : List RT, sumK (fun k => match srt .table k with | .other => cF k | .stay => 0 | _ => 1) r + 2 * (r.map fun t => if srt .table t.kdOf = .other then 0 else 1).sum ≤ sumK cTab r := by
    intro r
    induction r with
    | nil => simp [sumK]
    | cons u us ih =>
      rw [sumK_cons, sumK_cons, List.map_cons, List.sum_cons]
      have : (match srt .table u.kdOf with | .other => cF u.kdOf | .stay => 0 | _ => 1) + 2 * (if srt .table u.kdOf = .other then 0 else 1) ≤ cTab u.kdOf := by
        unfold cTab; cases srt .table u.kdOf <;> simp
      omega
  have h6 := h5 l
  have h7 : rsizeL (fitT .table l) ≤ rsizeL l + sumK (fun k => match srt .table k with | .other => cF k | .stay => 0 | _ => 1) l + 2 * oth (runsBy (fun t => srt .table t.kdOf) l) := h
  omega

theorem cF_wt (k : Kd) : cF k ≤ wt k := by cases k <;> decide
theorem toldT_size (tx : List Pce) : rsizeL (toldT tx) ≤ 1 ∧ ∀ c : Kd → Nat, sumK c (toldT tx) ≤ c .para := by
  unfold toldT
  split
  · simp [rsizeL, sumK]
  · refine ⟨by simp [rsizeL, rsize], fun c => ?_⟩
    simp [sumK, RT.kdOf, RT.kind, kdPara]
theorem toldT_nil {tx : List Pce} {K : List RT} (h : toldT tx ++ K = []) : True := trivial
theorem leastT_size (k : Kd) : rsize (leastT k) ≤ 2 := by cases k <;> simp [leastT, mk, rsize, rsizeL]
theorem orLeast_size {k : Kd} {l : List RT} {m : Nat} (h : rsizeL l ≤ m) (hm : 2 ≤ m) : rsizeL (orLeast k l) ≤ m := by
  unfold orLeast
  split
  · rw [rsizeL_one]; have := leastT_size k; omega
  · exact h
/-- the chapter's node: five for one -/
theorem nodeK_size (n r : Int) (k : ByteArray) (a : List Att) (tx : List Pce) (K : List RT) : rsizeL (nodeK n r k a tx K) + sumK wt (nodeK n r k a tx K) ≤ 5 + (rsizeL K + sumK wt K) := by
  have ht := toldT_size tx
  have hw := sumK_le cF_wt K
  unfold nodeK
  cases hk : kd k with
  | item =>
    have h := fitF_size K
    simp only [fitT_flow (p := .item) (by simp), rsizeL_one, rsize, sumK_cons, sumK_nil, RT.kdOf, RT.kind, hk, wt] at h ⊢
    omega
  | cell =>
    have h := fitF_size K
    simp only [fitT_flow (p := .cell) (by simp), rsizeL_one, rsize, sumK_cons, sumK_nil, RT.kdOf, RT.kind, hk, wt] at h ⊢
    omega
  | quote =>
    have h := fitF_size (toldT tx ++ K)
    rw [rsizeL_append, sumK_append] at h
    have h1 := ht.2 cF
    have e0 : cF .para = 0 := rfl
    have h2 := orLeast_size (k := .quote) (l := fitT .quote (toldT tx ++ K)) (m := 2 + (rsizeL K + sumK cF K)) (by rw [fitT_flow (by simp)]; omega) (by omega)
    simp only [rsizeL_one, rsize, sumK_cons, sumK_nil, RT.kdOf, RT.kind, hk, wt] at h2 ⊢
    omega
  | list =>
    have h := fitT_size (p := .list) (by simp) (toldT tx ++ K)
    rw [rsizeL_append, sumK_append] at h
    have h1 := ht.2 (cT .list)
    have e0 : cT .list .para = 1 := by decide
    have h3 : sumK (cT .list) K ≤ sumK wt K := sumK_le (fun k => by cases k <;> decide) K
    have h2 := orLeast_size (k := .list) (l := fitT .list (toldT tx ++ K)) (m := 2 + (rsizeL K + sumK wt K)) (by omega) (by omega)
    simp only [rsizeL_one, rsize, sumK_cons, sumK_nil, RT.kdOf, RT.kind, hk, wt] at h2 ⊢
    omega
  | row =>
    have h := fitT_size (p := .row) (by simp) (toldT tx ++ K)
    rw [rsizeL_append, sumK_append] at h
    have h1 := ht.2 (cT .row)
    have e0 : cT .row .para = 1 := by decide
    have h3 : sumK (cT .row) K ≤ sumK wt K := sumK_le (fun k => by cases k <;> decide) K
    have h2 := orLeast_size (k := .row) (l := fitT .row (toldT tx ++ K)) (m := 2 + (rsizeL K + sumK wt K)) (by omega) (by omega)
    simp only [rsizeL_one, rsize, sumK_cons, sumK_nil, RT.kdOf, RT.kind, hk, wt] at h2 ⊢
    omega
  | table =>
    have h := fitTab_size (toldT tx ++ K)
    rw [rsizeL_append, sumK_append] at h
    have h1 := ht.2 cTab
    have e0 : cTab .para = 0 := by decide
    have h3 : sumK cTab K ≤ sumK wt K := sumK_le (fun k => by cases k <;> decide) K
    have h2 := orLeast_size (k := .table) (l := fitT .table (toldT tx ++ K)) (m := 3 + (rsizeL K + sumK wt K)) (by omega) (by omega)
    simp only [rsizeL_one, rsize, sumK_cons, sumK_nil, RT.kdOf, RT.kind, hk, wt] at h2 ⊢
    omega
  | para => simp only [rsizeL, rsize, sumK_cons, RT.kdOf, RT.kind, hk, wt]; omega
  | head => simp only [rsizeL, rsize, sumK_cons, RT.kdOf, RT.kind, hk, wt]; omega
  | doc => simp only [rsizeL, rsize, sumK_cons, RT.kdOf, RT.kind, kdPara, wt]; omega
  | other => simp only [rsizeL, rsize, sumK_cons, RT.kdOf, RT.kind, kdPara, wt]; omega
mutual
theorem nodeT_size : ∀ t : RT, rsizeL (nodeT t) + sumK wt (nodeT t) ≤ 5 * rsize t
  | .node n r k a tx ks => by
    rw [nodeT, rsize]
    have h1 := nodeK_size n r k a tx (rowT ks)
    have h2 := rowT_size ks
    omega
theorem rowT_size : ∀ ts : List RT, rsizeL (rowT ts) + sumK wt (rowT ts) ≤ 5 * rsizeL ts
  | [] => by simp [rowT, rsizeL, sumK]
  | t :: ts => by
    rw [rowT, rsizeL_append, sumK_append, rsizeL]
    have h1 := nodeT_size t
    have h2 := rowT_size ts
    omega
end
/-- IT DOES NOT GROW MUCH -/
theorem repair_size (t : RT) : rsize (repairT t) ≤ 5 * rsize t + 4 := by
  obtain ⟨n, r, k, a, tx, ks⟩ := t
  rw [repairT, rsize, rsize, rsizeL_append, fitT_flow (by simp)]
  have h1 := fitF_size (rowT ks)
  have h2 := sumK_le cF_wt (rowT ks)
  have h3 := rowT_size ks
  have h4 := (toldT_size tx).1
  omega
end Go.Proofs.Ytcdhndhgainadaa
