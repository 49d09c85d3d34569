/-
  What is well-formed stays; size; what is told.
-/
import Derived.Test.YtcdhndhgainadaaRepOk
namespace Go.Proofs.Ytcdhndhgainadaa
open Go Go.RowKit
set_option linter.unusedVariables false
set_option linter.unusedSimpArgs false

theorem runsBy_same {f : RT → Srt} {s : Srt} : ∀ {l : List RT}, (∀ t ∈ l, f t = s) → l ≠ [] → runsBy f l = [(s, l)]
  | [], _, h => absurd rfl h
  | [t], h, _ => by simp [runsBy, h t (by simp)]
  | t :: u :: ts, h, _ => by
    rw [runsBy, runsBy_same (l := u :: ts) (fun x hx => h x (List.mem_cons_of_mem _ hx)) (by simp)]
    simp [h t (by simp)]
theorem wrapT_stay (p : Kd) (run : List RT) : wrapT p .stay run = run := by cases p <;> rfl
theorem fitT_all {p : Kd} {l : List RT} (h : ∀ t ∈ l, p.allows t.kdOf = true) : fitT p l = l := by
  have hs : ∀ t ∈ l, srt p t.kdOf = .stay := fun t ht => by unfold srt; rw [if_pos (h t ht)]
  unfold fitT
  cases l with
  | nil => rfl
  | cons t ts =>
    rw [runsBy_same hs (by simp)]
    simp [wrapT_stay]
theorem okL_allows {p : Kd} {ts : List RT} (h : okL p ts = true) : ∀ t ∈ ts, p.allows t.kdOf = true := fun t ht => (okT_in (okL_all.1 h t ht)).1
theorem allows_known {p k : Kd} (h : p.allows k = true) : k.known = true ∧ k ≠ .doc := by
  cases p <;> cases k <;> simp [Kd.allows, Kd.flow, Kd.known] at h ⊢
theorem allows_none {p k : Kd} (hp : p = .para ∨ p = .head) (h : p.allows k = true) : False := by
  rcases hp with rfl | rfl <;> simp [Kd.allows] at h
theorem okT_parts {p : Kd} {n r : Int} {k : ByteArray} {a : List Att} {tx : List Pce} {ks : List RT} (h : okT p (.node n r k a tx ks) = true) :
    p.allows (kd k) = true ∧ (0 < tx.length → (kd k).holds = true) ∧ ((kd k).needs = true → ks ≠ []) ∧ okL (kd k) ks = true := by
  have h0 := okT_in h
  rw [okT, Bool.and_eq_true] at h
  have h1 := of_decide_eq_true h.1
  simp only [RT.kdOf, RT.kind, RT.kids] at h0
  unfold wy at h1
  simp only [Bool.false_and, Bool.not_false, Bool.true_and, h0.1, h0.2.1, Bool.not_true, Bool.false_eq_true, if_false] at h1
  refine ⟨h0.1, fun hx => ?_, fun hn => ?_, h.2⟩
  · cases hh : (kd k).holds with
    | true => rfl
    | false => simp [hx, hh] at h1
  · intro e
    subst e
    split at h1
    · cases h1
    · simp [hn] at h1
mutual
theorem nodeT_ok : ∀ (t : RT) (p : Kd), okT p t = true → nodeT t = [t]
  | .node n r k a tx ks, p, h => by
    obtain ⟨h1, h2, h3, h4⟩ := okT_parts h
    have hK := rowT_ok ks (kd k) h4
    have hal := okL_allows h4
    obtain ⟨hk1, hk2⟩ := allows_known h1
    have htx : (kd k).holds = false → tx = [] := fun hh => by
      cases tx with
      | nil => rfl
      | cons x xs => have := h2 (by simp); rw [hh] at this; cases this
    rw [nodeT, hK]
    unfold nodeK
    cases hk : kd k with
    | item => simp only [hk] at hal ⊢; rw [fitT_all hal]
    | cell => simp only [hk] at hal ⊢; rw [fitT_all hal]
    | para =>
      rw [hk] at hal
      have : ks = [] := by
        cases ks with
        | nil => rfl
        | cons u us => exact absurd (hal u (by simp)) (fun h => allows_none (.inl rfl) h)
      subst this; rfl
    | head =>
      rw [hk] at hal
      have : ks = [] := by
        cases ks with
        | nil => rfl
        | cons u us => exact absurd (hal u (by simp)) (fun h => allows_none (.inr rfl) h)
      subst this; rfl
    | quote =>
      have e := htx (by rw [hk]; rfl); subst e
      rw [hk] at hal h3
      simp only [toldT, if_true, List.nil_append]
      rw [fitT_all hal]
      unfold orLeast; rw [if_neg (h3 rfl)]
    | list =>
      have e := htx (by rw [hk]; rfl); subst e
      rw [hk] at hal h3
      simp only [toldT, if_true, List.nil_append]
      rw [fitT_all hal]
      unfold orLeast; rw [if_neg (h3 rfl)]
    | table =>
      have e := htx (by rw [hk]; rfl); subst e
      rw [hk] at hal h3
      simp only [toldT, if_true, List.nil_append]
      rw [fitT_all hal]
      unfold orLeast; rw [if_neg (h3 rfl)]
    | row =>
      have e := htx (by rw [hk]; rfl); subst e
      rw [hk] at hal h3
      simp only [toldT, if_true, List.nil_append]
      rw [fitT_all hal]
      unfold orLeast; rw [if_neg (h3 rfl)]
    | doc => exact absurd hk hk2
    | other => rw [hk] at hk1; cases hk1
theorem rowT_ok : ∀ (ts : List RT) (p : Kd), okL p ts = true → rowT ts = ts
  | [], p, _ => by rw [rowT]
  | t :: ts, p, h => by
    rw [okL, Bool.and_eq_true] at h
    rw [rowT, nodeT_ok t p h.1, rowT_ok ts p h.2]; rfl
end
theorem kd_doc {k : ByteArray} (h : kd k = .doc) : k = sDoc := by
  rcases kd_cases k with h1 | h1 | h1 | h1 | h1 | h1 | h1 | h1 | h1 | h1
  · rw [h1, kdPara] at h; cases h
  · rw [h1, kdHead] at h; cases h
  · rw [h1, kdQuote] at h; cases h
  · rw [h1, kdList] at h; cases h
  · rw [h1, kdTable] at h; cases h
  · rw [h1, kdItem] at h; cases h
  · rw [h1, kdRow] at h; cases h
  · rw [h1, kdCell] at h; cases h
  · exact h1
  · rw [kd_other h1] at h; cases h
/-- RIGHT STAYS -/
theorem repair_stays {t : RT} (h : rightT (erase t) = true) : repairT t = t := by
  obtain ⟨n, r, k, a, tx, ks⟩ := t
  unfold rightT at h
  have h := of_decide_eq_true h
  rw [erase] at h
  by_cases hw : wy true .other (kd k) tx.length (eraseL ks).length = .fine
  · rw [faultT_fine hw] at h
    have hd : kd k = .doc := by
      unfold wy at hw
      cases hk : kd k <;> rw [hk] at hw <;> simp at hw ⊢
    have hx : tx = [] := by
      rw [hd] at hw
      cases tx with
      | nil => rfl
      | cons x xs => simp [wy, Kd.known, Kd.holds] at hw
    rw [hd] at h
    have hok : okL .doc ks = true := (okL_fault ks .doc).2 h
    subst hx
    rw [repairT, rowT_ok ks .doc hok, fitT_all (okL_allows hok), kd_doc hd]
    rfl
  · rw [faultT_amiss hw] at h
    exact absurd h hw
theorem repair_twice (t : RT) : repairT (repairT t) = repairT t := repair_stays (repair_right t)

/-! ### size -/
def wt : Kd → Nat | .item => 2 | .row => 2 | .cell => 3 | .doc => 3 | .other => 3 | _ => 1
def wts (l : List RT) : Nat := (l.map fun t => wt t.kdOf).sum
theorem wts_append (a b : List RT) : wts (a ++ b) = wts a + wts b := by simp [wts]
theorem wts_len (l : List RT) : l.length ≤ wts l := by
  induction l with
  | nil => simp
  | cons t ts ih =>
    have : 1 ≤ wt t.kdOf := by cases t.kdOf <;> simp [wt]
    simp only [wts, List.map_cons, List.sum_cons, List.length_cons] at ih ⊢
    omega
theorem rsizeL_flatMap {α : Type} (f : α → List RT) (g : α → Nat) (l : List α) (h : ∀ x ∈ l, rsizeL (f x) ≤ g x) : rsizeL (l.flatMap f) ≤ (l.map g).sum := by
  induction l with
  | nil => simp [rsizeL]
  | cons x xs ih =>
    rw [List.flatMap_cons, rsizeL_append, List.map_cons, List.sum_cons]
    have := h x (by simp)
    have := ih (fun y hy => h y (List.mem_cons_of_mem _ hy))
    omega
theorem rsizeL_runs (f : RT → Srt) (l : List RT) : ((runsBy f l).map fun p => rsizeL p.2).sum = rsizeL l := by
  have h : ∀ ps : List (Srt × List RT), (ps.map fun p => rsizeL p.2).sum = rsizeL (ps.flatMap (·.2)) := by
    intro ps
    induction ps with
    | nil => rfl
    | cons p ps ih => rw [List.map_cons, List.sum_cons, List.flatMap_cons, rsizeL_append, ih]
  rw [h, runsBy_flat]
theorem wts_runs (f : RT → Srt) (l : List RT) : ((runsBy f l).map fun p => wts p.2).sum = wts l := by
  have h : ∀ ps : List (Srt × List RT), (ps.map fun p => wts p.2).sum = wts (ps.flatMap (·.2)) := by
    intro ps
    induction ps with
    | nil => rfl
    | cons p ps ih => rw [List.map_cons, List.sum_cons, List.flatMap_cons, wts_append, ih]
  rw [h, runsBy_flat]
end Go.Proofs.Ytcdhndhgainadaa
