/-
  What repair answers is well-formed, and what is well-formed stays.
-/
import Derived.Test.YtcdhndhgainadaaRepLaw
import Derived.Test.YtcdhndhgainadaaWholeLaw
namespace Go.Proofs.Ytcdhndhgainadaa
open Go Go.RowKit
set_option linter.unusedVariables false
set_option linter.unusedSimpArgs false

mutual
/-- no fault under a parent -/
def okT (p : Kd) : RT → Bool
  | .node _ _ k _ tx ks => decide (wy false p (kd k) tx.length ks.length = .fine) && okL (kd k) ks
def okL (p : Kd) : List RT → Bool
  | [] => true
  | t :: ts => okT p t && okL p ts
end
theorem okL_all {p : Kd} : ∀ {ts : List RT}, okL p ts = true ↔ ∀ t ∈ ts, okT p t = true
  | [] => by simp [okL]
  | t :: ts => by rw [okL, Bool.and_eq_true, okL_all]; simp
theorem okL_append {p : Kd} {a b : List RT} : okL p (a ++ b) = true ↔ okL p a = true ∧ okL p b = true := by
  rw [okL_all, okL_all, okL_all]
  constructor
  · intro h; exact ⟨fun t ht => h t (List.mem_append_left _ ht), fun t ht => h t (List.mem_append_right _ ht)⟩
  · rintro ⟨h1, h2⟩ t ht
    rcases List.mem_append.1 ht with h | h
    · exact h1 t h
    · exact h2 t h
theorem eraseL_len (l : List RT) : (eraseL l).length = l.length := by rw [eraseL_map, List.length_map]
mutual
theorem okT_fault : ∀ (t : RT) (p : Kd), okT p t = true ↔ (faultT false p (erase t)).2.2 = .fine
  | .node n r k at_ tx ks, p => by
    rw [okT, Bool.and_eq_true, decide_eq_true_eq, okL_fault ks (kd k), erase]
    by_cases h : wy false p (kd k) tx.length ks.length = .fine
    · have h' : wy false p (kd k) tx.length (eraseL ks).length = .fine := by rw [eraseL_len]; exact h
      rw [faultT_fine h']
      exact ⟨fun a => a.2, fun a => ⟨h, a⟩⟩
    · have h' : ¬ wy false p (kd k) tx.length (eraseL ks).length = .fine := by rw [eraseL_len]; exact h
      rw [faultT_amiss h']
      exact ⟨fun a => absurd a.1 h, fun a => absurd a h'⟩
theorem okL_fault : ∀ (ts : List RT) (p : Kd), okL p ts = true ↔ (faultL p (eraseL ts)).2.2 = .fine
  | [], p => by simp [okL, eraseL, faultL]
  | t :: ts, p => by
    rw [okL, Bool.and_eq_true, okT_fault t p, okL_fault ts p, eraseL, faultL]
    by_cases h : (faultT false p (erase t)).2.2 = .fine
    · rw [if_pos h]; exact ⟨fun a => a.2, fun a => ⟨h, a⟩⟩
    · rw [if_neg h]; exact ⟨fun a => absurd a.1 h, fun a => absurd a h⟩
end
/-- a node's own inside is well-formed, and its kind is one of the eight -/
def okIn (t : RT) : Prop := match t with
  | .node _ _ k _ tx ks => (kd k).known = true ∧ kd k ≠ .doc ∧ (0 < tx.length → (kd k).holds = true) ∧ ((kd k).needs = true → ks ≠ []) ∧ okL (kd k) ks = true
theorem okT_of {p : Kd} {t : RT} (h : okIn t) (hp : p.allows t.kdOf = true) : okT p t = true := by
  obtain ⟨n, r, k, a, tx, ks⟩ := t
  obtain ⟨h1, h2, h3, h4, h5⟩ := h
  simp only [RT.kdOf, RT.kind] at hp
  rw [okT, Bool.and_eq_true]
  refine ⟨decide_eq_true ?_, h5⟩
  unfold wy
  have e3 : (decide (0 < tx.length) && !(kd k).holds) = false := by
    by_cases h : 0 < tx.length
    · simp [h3 h]
    · simp [h]
  have e4 : ((kd k).needs && decide (ks.length = 0)) = false := by
    cases hn : (kd k).needs with
    | false => rfl
    | true =>
      have := h4 hn
      cases ks with
      | nil => exact absurd rfl this
      | cons _ _ => rfl
  have e4' : (kd k).needs = true → ¬ ks = [] := h4
  simp [h1, hp, e3]
  exact e4'
theorem okT_in {p : Kd} {t : RT} (h : okT p t = true) : p.allows t.kdOf = true ∧ (kd t.kind).known = true ∧ okL t.kdOf t.kids = true := by
  obtain ⟨n, r, k, a, tx, ks⟩ := t
  rw [okT, Bool.and_eq_true] at h
  have h1 := of_decide_eq_true h.1
  unfold wy at h1
  simp only [Bool.false_and, Bool.not_false, Bool.true_and] at h1
  simp only [RT.kdOf, RT.kind, RT.kids]
  refine ⟨?_, ?_, h.2⟩
  · cases hp : p.allows (kd k) with
    | true => rfl
    | false => rw [hp] at h1; simp at h1; split at h1 <;> cases h1
  · cases hk : (kd k).known with
    | true => rfl
    | false => rw [hk] at h1; simp at h1

/-! ### what nodes come to -/
theorem kd_known_cases {k : Kd} (h : k.known = true) (hd : k ≠ .doc) : k = .para ∨ k = .head ∨ k = .quote ∨ k = .list ∨ k = .table ∨ k = .item ∨ k = .row ∨ k = .cell := by
  cases k <;> simp [Kd.known] at h hd ⊢
theorem okIn_kind {t : RT} (h : okIn t) : t.kdOf = .para ∨ t.kdOf = .head ∨ t.kdOf = .quote ∨ t.kdOf = .list ∨ t.kdOf = .table ∨ t.kdOf = .item ∨ t.kdOf = .row ∨ t.kdOf = .cell := by
  obtain ⟨n, r, k, a, tx, ks⟩ := t
  exact kd_known_cases h.1 h.2.1
theorem okIn_mk {k : ByteArray} {ks : List RT} (h1 : (kd k).known = true) (h2 : kd k ≠ .doc) (h3 : ks ≠ []) (h4 : okL (kd k) ks = true) : okIn (mk k ks) :=
  ⟨h1, h2, fun h => by simp at h, fun _ => h3, h4⟩
theorem fitF_mem {l : List RT} (hl : ∀ t ∈ l, okIn t) : ∀ t ∈ fitF l, okIn t ∧ t.kdOf.flow = true := by
  intro t ht
  simp only [fitF, List.mem_flatMap] at ht
  obtain ⟨⟨s, run⟩, hp, ht⟩ := ht
  obtain ⟨hne, hall⟩ := runsBy_all _ l _ hp
  simp only at hne hall ht
  have hin : ∀ u ∈ run, okIn u := fun u hu => hl u (by
    have := runsBy_flat (fun t => srt .doc t.kdOf) l
    rw [← this]
    exact List.mem_flatMap.2 ⟨_, hp, hu⟩)
  cases s with
  | stay =>
    have := hall t ht
    refine ⟨hin t ht, ?_⟩
    unfold srt at this
    split at this
    · rename_i h; simpa [Kd.allows] using h
    · split at this
      · cases this
      · cases this
      · split at this <;> cases this
      · split at this <;> cases this
  | item =>
    simp only [wrapF, List.mem_singleton] at ht
    subst ht
    refine ⟨okIn_mk (by rw [kdList]; rfl) (by rw [kdList]; simp) hne ?_, by simp [RT.kdOf, RT.kind, mk, kdList, Kd.flow]⟩
    rw [okL_all]
    intro u hu
    have h1 := hall u hu
    refine okT_of (hin u hu) ?_
    rcases okIn_kind (hin u hu) with h | h | h | h | h | h | h | h <;> rw [h] at h1 ⊢ <;> simp [srt, Kd.allows, Kd.flow, kdList] at h1 ⊢
  | row =>
    simp only [wrapF, List.mem_singleton] at ht
    subst ht
    refine ⟨okIn_mk (by rw [kdTable]; rfl) (by rw [kdTable]; simp) hne ?_, by simp [RT.kdOf, RT.kind, mk, kdTable, Kd.flow]⟩
    rw [okL_all]
    intro u hu
    have h1 := hall u hu
    refine okT_of (hin u hu) ?_
    rcases okIn_kind (hin u hu) with h | h | h | h | h | h | h | h <;> rw [h] at h1 ⊢ <;> simp [srt, Kd.allows, Kd.flow, kdTable] at h1 ⊢
  | other =>
    obtain ⟨u, hu⟩ := List.exists_mem_of_ne_nil run hne
    have h1 := hall u hu
    exfalso
    rcases okIn_kind (hin u hu) with h | h | h | h | h | h | h | h <;> rw [h] at h1 <;> simp [srt, Kd.allows, Kd.flow] at h1
  | cell =>
    simp only [wrapF, List.mem_singleton] at ht
    subst ht
    have hrow : okIn (mk sRow run) := by
      refine okIn_mk (by rw [kdRow]; rfl) (by rw [kdRow]; simp) hne ?_
      rw [okL_all]
      intro u hu
      have h1 := hall u hu
      refine okT_of (hin u hu) ?_
      rcases okIn_kind (hin u hu) with h | h | h | h | h | h | h | h <;> rw [h] at h1 ⊢ <;> simp [srt, Kd.allows, Kd.flow, kdRow] at h1 ⊢
    refine ⟨okIn_mk (by rw [kdTable]; rfl) (by rw [kdTable]; simp) (by simp) ?_, by simp [RT.kdOf, RT.kind, mk, kdTable, Kd.flow]⟩
    rw [okL_all]
    intro u hu
    simp at hu
    subst hu
    exact okT_of hrow (by simp [RT.kdOf, RT.kind, mk, kdTable, kdRow, Kd.allows])
theorem fitF_ok {p : Kd} (hp : ∀ k, p.allows k = k.flow) {l : List RT} (hl : ∀ t ∈ l, okIn t) : okL p (fitF l) = true := by
  rw [okL_all]
  intro t ht
  obtain ⟨h1, h2⟩ := fitF_mem hl t ht
  exact okT_of h1 (by rw [hp]; exact h2)

theorem okIn_item {run : List RT} (h : ∀ t ∈ run, okIn t) : okIn (mk sItem (fitF run)) :=
  ⟨by rw [kdItem]; rfl, by rw [kdItem]; simp, fun h => by simp at h, fun h => by rw [kdItem] at h; simp [Kd.needs] at h, by rw [kdItem]; exact fitF_ok (fun _ => rfl) h⟩
theorem okIn_cell {run : List RT} (h : ∀ t ∈ run, okIn t) : okIn (mk sCell (fitF run)) :=
  ⟨by rw [kdCell]; rfl, by rw [kdCell]; simp, fun h => by simp at h, fun h => by rw [kdCell] at h; simp [Kd.needs] at h, by rw [kdCell]; exact fitF_ok (fun _ => rfl) h⟩
theorem kdOf_mk (k : ByteArray) (ks : List RT) : (mk k ks).kdOf = kd k := rfl
theorem fitT_ok {p : Kd} (hp : p = .doc ∨ p = .quote ∨ p = .item ∨ p = .cell ∨ p = .list ∨ p = .row ∨ p = .table) {l : List RT} (hl : ∀ t ∈ l, okIn t) : okL p (fitT p l) = true := by
  by_cases hf : p = .doc ∨ p = .quote ∨ p = .item ∨ p = .cell
  · rw [fitT_flow hf]
    exact fitF_ok (fun k => by rcases hf with rfl | rfl | rfl | rfl <;> rfl) hl
  · rw [okL_all]
    intro t ht
    simp only [fitT, List.mem_flatMap] at ht
    obtain ⟨⟨s, run⟩, hr, ht⟩ := ht
    obtain ⟨hne, hall⟩ := runsBy_all _ l _ hr
    simp only at hne hall ht
    have hin : ∀ u ∈ run, okIn u := fun u hu => hl u (by
      have := runsBy_flat (fun t => srt p t.kdOf) l
      rw [← this]
      exact List.mem_flatMap.2 ⟨_, hr, hu⟩)
    have hpp : p = .list ∨ p = .row ∨ p = .table := by
      rcases hp with h | h | h | h | h | h | h
      · exact absurd (.inl h) hf
      · exact absurd (.inr (.inl h)) hf
      · exact absurd (.inr (.inr (.inl h))) hf
      · exact absurd (.inr (.inr (.inr h))) hf
      · exact .inl h
      · exact .inr (.inl h)
      · exact .inr (.inr h)
    by_cases hs : s = .stay
    · subst hs
      have ht' : t ∈ run := by simpa [wrapT] using ht
      have h1 := hall t ht'
      refine okT_of (hin t ht') ?_
      unfold srt at h1
      split at h1
      · assumption
      · rcases hpp with rfl | rfl | rfl
        · cases h1
        · cases h1
        · simp only at h1; split at h1 <;> cases h1
    · rcases hpp with rfl | rfl | rfl
      · have e : wrapT .list s run = [mk sItem (fitF run)] := by cases s <;> first | rfl | exact absurd rfl hs
        rw [e] at ht
        simp at ht
        subst ht
        exact okT_of (okIn_item hin) (by rw [kdOf_mk, kdItem]; rfl)
      · have e : wrapT .row s run = [mk sCell (fitF run)] := by cases s <;> first | rfl | exact absurd rfl hs
        rw [e] at ht
        simp at ht
        subst ht
        exact okT_of (okIn_cell hin) (by rw [kdOf_mk, kdCell]; rfl)
      · by_cases hc : s = .cell
        · subst hc
          have e : wrapT .table .cell run = [mk sRow run] := rfl
          rw [e] at ht
          simp at ht
          subst ht
          have hrow : okIn (mk sRow run) := by
            refine okIn_mk (by rw [kdRow]; rfl) (by rw [kdRow]; simp) hne ?_
            rw [okL_all]
            intro u hu
            have h1 := hall u hu
            refine okT_of (hin u hu) ?_
            rcases okIn_kind (hin u hu) with h | h | h | h | h | h | h | h <;> rw [h] at h1 ⊢ <;> simp [srt, Kd.allows, Kd.flow, kdRow] at h1 ⊢
          exact okT_of hrow (by rw [kdOf_mk, kdRow]; rfl)
        · have e : wrapT .table s run = [mk sRow [mk sCell (fitF run)]] := by cases s <;> first | rfl | exact absurd rfl hs | exact absurd rfl hc
          rw [e] at ht
          simp at ht
          subst ht
          have hrow : okIn (mk sRow [mk sCell (fitF run)]) := by
            refine okIn_mk (by rw [kdRow]; rfl) (by rw [kdRow]; simp) (by simp) ?_
            rw [okL_all]
            intro u hu
            simp at hu
            subst hu
            exact okT_of (okIn_cell hin) (by rw [kdOf_mk, kdCell, kdRow]; rfl)
          exact okT_of hrow (by rw [kdOf_mk, kdRow]; rfl)
theorem okIn_leaf {n r : Int} {k : ByteArray} {a : List Att} {tx : List Pce} (h1 : (kd k).known = true) (h2 : kd k ≠ .doc) (h3 : 0 < tx.length → (kd k).holds = true) (h4 : (kd k).needs = false) : okIn (.node n r k a tx []) :=
  ⟨h1, h2, h3, (fun h => by rw [h4] at h; cases h), rfl⟩
theorem toldT_in (tx : List Pce) : ∀ t ∈ toldT tx, okIn t := by
  intro t ht
  unfold toldT at ht
  split at ht
  · cases ht
  · simp at ht
    subst ht
    exact okIn_leaf (by rw [kdPara]; rfl) (by rw [kdPara]; simp) (fun _ => by rw [kdPara]; rfl) (by rw [kdPara]; rfl)
theorem leastT_ok {k : Kd} (h : k.needs = true) : okL k [leastT k] = true := by
  have hc : okIn (mk sCell []) := okIn_leaf (by rw [kdCell]; rfl) (by rw [kdCell]; simp) (fun h => by simp at h) (by rw [kdCell]; rfl)
  have hr : okIn (mk sRow [mk sCell []]) := okIn_mk (by rw [kdRow]; rfl) (by rw [kdRow]; simp) (by simp) (by
    rw [okL_all]; intro u hu; simp at hu; subst hu; exact okT_of hc (by rw [kdOf_mk, kdCell, kdRow]; rfl))
  have hp : okIn (mk sPara []) := okIn_leaf (by rw [kdPara]; rfl) (by rw [kdPara]; simp) (fun h => by simp at h) (by rw [kdPara]; rfl)
  have hi : okIn (mk sItem []) := okIn_leaf (by rw [kdItem]; rfl) (by rw [kdItem]; simp) (fun h => by simp at h) (by rw [kdItem]; rfl)
  rw [okL_all]
  intro u hu
  simp at hu
  subst hu
  cases k <;> simp [Kd.needs] at h
  · exact okT_of hp (by simp only [leastT]; rw [kdOf_mk, kdPara]; rfl)
  · exact okT_of hi (by simp only [leastT]; rw [kdOf_mk, kdItem]; rfl)
  · exact okT_of hr (by simp only [leastT]; rw [kdOf_mk, kdRow]; rfl)
  · exact okT_of hc (by simp only [leastT]; rw [kdOf_mk, kdCell]; rfl)
theorem orLeast_ok {k : Kd} {l : List RT} (h : k.needs = true) (hl : okL k l = true) : okL k (orLeast k l) = true ∧ orLeast k l ≠ [] := by
  unfold orLeast
  split
  · exact ⟨leastT_ok h, by simp⟩
  · exact ⟨hl, by assumption⟩
theorem nodeK_in {n r : Int} {k : ByteArray} {a : List Att} {tx : List Pce} {K : List RT} (hK : ∀ t ∈ K, okIn t) : ∀ t ∈ nodeK n r k a tx K, okIn t := by
  have htK : ∀ t ∈ toldT tx ++ K, okIn t := fun t ht => (List.mem_append.1 ht).elim (toldT_in tx t) (hK t)
  intro t ht
  unfold nodeK at ht
  cases hk : kd k with
  | item =>
    rw [hk] at ht; simp at ht; subst ht
    exact ⟨by rw [hk]; rfl, by rw [hk]; simp, fun _ => by rw [hk]; rfl, fun h => by rw [hk] at h; simp [Kd.needs] at h, by rw [hk]; exact fitT_ok (by simp) hK⟩
  | cell =>
    rw [hk] at ht; simp at ht; subst ht
    exact ⟨by rw [hk]; rfl, by rw [hk]; simp, fun _ => by rw [hk]; rfl, fun h => by rw [hk] at h; simp [Kd.needs] at h, by rw [hk]; exact fitT_ok (by simp) hK⟩
  | quote =>
    rw [hk] at ht; simp at ht; subst ht
    have := orLeast_ok (k := .quote) rfl (fitT_ok (p := .quote) (by simp) htK)
    exact ⟨by rw [hk]; rfl, by rw [hk]; simp, fun h => by simp at h, fun _ => this.2, by rw [hk]; exact this.1⟩
  | list =>
    rw [hk] at ht; simp at ht; subst ht
    have := orLeast_ok (k := .list) rfl (fitT_ok (p := .list) (by simp) htK)
    exact ⟨by rw [hk]; rfl, by rw [hk]; simp, fun h => by simp at h, fun _ => this.2, by rw [hk]; exact this.1⟩
  | table =>
    rw [hk] at ht; simp at ht; subst ht
    have := orLeast_ok (k := .table) rfl (fitT_ok (p := .table) (by simp) htK)
    exact ⟨by rw [hk]; rfl, by rw [hk]; simp, fun h => by simp at h, fun _ => this.2, by rw [hk]; exact this.1⟩
  | row =>
    rw [hk] at ht; simp at ht; subst ht
    have := orLeast_ok (k := .row) rfl (fitT_ok (p := .row) (by simp) htK)
    exact ⟨by rw [hk]; rfl, by rw [hk]; simp, fun h => by simp at h, fun _ => this.2, by rw [hk]; exact this.1⟩
  | para =>
    rw [hk] at ht
    rcases List.mem_cons.1 ht with rfl | ht
    · exact okIn_leaf (by rw [hk]; rfl) (by rw [hk]; simp) (fun _ => by rw [hk]; rfl) (by rw [hk]; rfl)
    · exact hK t ht
  | head =>
    rw [hk] at ht
    rcases List.mem_cons.1 ht with rfl | ht
    · exact okIn_leaf (by rw [hk]; rfl) (by rw [hk]; simp) (fun _ => by rw [hk]; rfl) (by rw [hk]; rfl)
    · exact hK t ht
  | doc =>
    rw [hk] at ht
    rcases List.mem_cons.1 ht with rfl | ht
    · exact okIn_leaf (by rw [kdPara]; rfl) (by rw [kdPara]; simp) (fun _ => by rw [kdPara]; rfl) (by rw [kdPara]; rfl)
    · exact hK t ht
  | other =>
    rw [hk] at ht
    rcases List.mem_cons.1 ht with rfl | ht
    · exact okIn_leaf (by rw [kdPara]; rfl) (by rw [kdPara]; simp) (fun _ => by rw [kdPara]; rfl) (by rw [kdPara]; rfl)
    · exact hK t ht
mutual
theorem nodeT_in : ∀ (t : RT), ∀ u ∈ nodeT t, okIn u
  | .node n r k a tx ks => by rw [nodeT]; exact nodeK_in (rowT_in ks)
theorem rowT_in : ∀ (ts : List RT), ∀ u ∈ rowT ts, okIn u
  | [] => fun u hu => by rw [rowT] at hu; cases hu
  | t :: ts => fun u hu => by
    rw [rowT] at hu
    exact (List.mem_append.1 hu).elim (nodeT_in t u) (rowT_in ts u)
end
/-- ALWAYS WELL-FORMED -/
theorem repair_right (t : RT) : rightT (erase (repairT t)) = true := by
  obtain ⟨n, r, k, a, tx, ks⟩ := t
  have h : okL .doc (toldT tx ++ fitT .doc (rowT ks)) = true := by
    rw [okL_append]
    refine ⟨?_, fitT_ok (by simp) (rowT_in ks)⟩
    rw [okL_all]
    intro t ht
    have hin := toldT_in tx t ht
    unfold toldT at ht
    split at ht
    · cases ht
    · simp at ht
      subst ht
      exact okT_of hin (by simp only [RT.kdOf, RT.kind]; rw [kdPara]; rfl)
  rw [okL_fault] at h
  unfold rightT
  rw [repairT, erase]
  have hw : wy true .other (kd sDoc) ([] : List Pce).length (eraseL (toldT tx ++ fitT .doc (rowT ks))).length = .fine := by rw [kdDoc]; simp [wy, Kd.known, Kd.needs]
  rw [faultT_fine hw, kdDoc]
  exact decide_eq_true h
end Go.Proofs.Ytcdhndhgainadaa
