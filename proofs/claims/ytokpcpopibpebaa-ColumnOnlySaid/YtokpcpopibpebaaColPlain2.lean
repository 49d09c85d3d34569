/-
  Columns, plainly, on: there and back; differences; truths.
-/
import Derived.Test.YtokpcpopibpebaaColPlain
namespace Go.Proofs.Ytokpcpopibpebaa
open Go Go.RowKit
set_option linter.unusedVariables false
set_option linter.unusedSimpArgs false

theorem runsBytes_cons (p : Nat × Int) (ps : List (Nat × Int)) : runsBytes (p :: ps) = runBytes p ++ runsBytes ps := by simp [runsBytes]
theorem runsBytes_append (ps qs : List (Nat × Int)) : runsBytes (ps ++ qs) = runsBytes ps ++ runsBytes qs := by simp [runsBytes]

/-- what was read is what is put -/
theorem parseR_some (left : Nat) : ∀ (b : List Nat) (ps : List (Nat × Int)), (∀ y ∈ b, y < 256) → parseR b left = some ps →
    (∃ rest, b = runsBytes ps ++ rest) ∧ (expand ps).length = left ∧ (∀ p ∈ ps, 1 ≤ p.1 ∧ p.1 < 18446744073709551616 ∧ InI p.2) := by
  induction left using Nat.strongRecOn with
  | _ left ih =>
    intro b ps hb h
    by_cases hl : left = 0
    · subst hl
      rw [parseR_zero] at h
      injection h with h; subst h
      exact ⟨⟨b, by simp [runsBytes]⟩, rfl, by simp⟩
    · cases hp : pair b with
      | none => rw [parseR_none hl hp] at h; cases h
      | some r =>
        obtain ⟨k, x, i⟩ := r
        by_cases h1 : k = 0 ∨ left < k
        · rw [parseR_bad hl hp h1] at h; cases h
        · rw [parseR_next hl hp h1] at h
          obtain ⟨qs, hq, rfl⟩ := Option.map_eq_some_iff.1 h
          obtain ⟨rest, e, rfl, hk, hx⟩ := pair_some hb hp
          have hd : b.drop (runBytes (k, x)).length = rest := by rw [e, List.drop_left]
          rw [hd] at hq
          obtain ⟨⟨r2, e2⟩, hlen, hall⟩ := ih (left - k) (by omega) rest qs (fun y hy => hb y (by rw [e]; exact List.mem_append_right _ hy)) hq
          refine ⟨⟨r2, by rw [runsBytes_cons, List.append_assoc, ← e2]; exact e⟩, ?_, ?_⟩
          · rw [expand_cons]; simp; omega
          · intro p hp'
            rcases List.mem_cons.1 hp' with rfl | hp'
            · exact ⟨by omega, hk, hx⟩
            · exact hall p hp'

theorem parseR_put : ∀ (ps : List (Nat × Int)) (more : List Nat), (∀ p ∈ ps, 1 ≤ p.1 ∧ p.1 < 18446744073709551616 ∧ InI p.2) → parseR (runsBytes ps ++ more) (expand ps).length = some ps
  | [], more, _ => by simp [expand, parseR_zero]
  | (k, x) :: ps, more, h => by
    obtain ⟨h1, h2, h3⟩ := h (k, x) (by simp)
    have ih := parseR_put ps more (fun p hp => h p (List.mem_cons_of_mem _ hp))
    rw [runsBytes_cons, List.append_assoc, expand_cons]
    have hlen : (List.replicate k x ++ expand ps).length = k + (expand ps).length := by simp
    show parseR _ (List.replicate k x ++ expand ps).length = _
    rw [hlen, parseR_next (by omega) (pair_put k x _ h2 h3) (by omega), List.drop_left, Nat.add_sub_cancel_left, ih]
    rfl

theorem runs_all {l : List Int} (hl : l.length < 18446744073709551616) (h : ∀ x ∈ l, InI x) : ∀ p ∈ runs l, 1 ≤ p.1 ∧ p.1 < 18446744073709551616 ∧ InI p.2 := fun p hp => by
  obtain ⟨h1, h2, h3⟩ := runs_mem hp
  exact ⟨h1, by omega, h p.2 h3⟩

/-- there and back -/
theorem parse_runs {l : List Int} (hl : l.length < 18446744073709551616) (h : ∀ x ∈ l, InI x) (more : List Nat) : parse (runsBytes (runs l) ++ more) l.length none = some (runs l) := by
  have := parseR_put (runs l) more (runs_all hl h)
  rw [expand_runs] at this
  rw [parse_eq, this]
  simp only [Option.bind_some]
  rw [if_pos ((apart_iff _).2 (by rw [expand_runs]))]

/-- what is taken is what is put -/
theorem parse_some {b : List Nat} {n : Nat} {ps : List (Nat × Int)} (hb : ∀ y ∈ b, y < 256) (h : parse b n none = some ps) :
    (∃ rest, b = runsBytes ps ++ rest) ∧ (expand ps).length = n ∧ (∀ p ∈ ps, 1 ≤ p.1 ∧ p.1 < 18446744073709551616 ∧ InI p.2) ∧ runs (expand ps) = ps := by
  rw [parse_eq] at h
  cases hr : parseR b n with
  | none => rw [hr] at h; cases h
  | some qs =>
    rw [hr] at h
    simp only [Option.bind_some] at h
    by_cases ha : apart none qs
    · rw [if_pos ha] at h
      injection h with h; subst h
      obtain ⟨h1, h2, h3⟩ := parseR_some n b _ hb hr
      exact ⟨h1, h2, h3, (apart_iff _).1 ha⟩
    · rw [if_neg ha] at h; cases h

theorem expand_InI {ps : List (Nat × Int)} (h : ∀ p ∈ ps, InI p.2) : ∀ x ∈ expand ps, InI x := by
  intro x hx
  simp only [expand, List.mem_flatMap, List.mem_replicate] at hx
  obtain ⟨p, hp, _, rfl⟩ := hx
  exact h p hp

/-- the reference's last test -/
theorem runsBytes_inj : ∀ {ps qs : List (Nat × Int)}, (∀ p ∈ ps, 1 ≤ p.1 ∧ p.1 < 18446744073709551616 ∧ InI p.2) → (∀ p ∈ qs, 1 ≤ p.1 ∧ p.1 < 18446744073709551616 ∧ InI p.2) → runsBytes ps = runsBytes qs → ps = qs
  | [], [], _, _, _ => rfl
  | [], q :: qs, _, _, h => by
    rw [runsBytes_cons] at h
    have e := congrArg List.length h
    have h2 := runBytes_pos q
    rw [List.length_append] at e
    have e0 : (runsBytes []).length = 0 := rfl
    omega
  | p :: ps, [], _, _, h => by
    rw [runsBytes_cons] at h
    have e := congrArg List.length h
    have h2 := runBytes_pos p
    rw [List.length_append] at e
    have e0 : (runsBytes []).length = 0 := rfl
    omega
  | (k, x) :: ps, (j, y) :: qs, hp, hq, h => by
    rw [runsBytes_cons, runsBytes_cons] at h
    obtain ⟨_, a2, a3⟩ := hp (k, x) (by simp)
    obtain ⟨_, b2, b3⟩ := hq (j, y) (by simp)
    have e1 := pair_put k x (runsBytes ps) a2 a3
    rw [h, pair_put j y (runsBytes qs) b2 b3] at e1
    simp only [Option.some.injEq, Prod.mk.injEq] at e1
    obtain ⟨rfl, rfl, _⟩ := e1
    rw [runsBytes_inj (fun p h' => hp p (List.mem_cons_of_mem _ h')) (fun p h' => hq p (List.mem_cons_of_mem _ h')) (List.append_cancel_left h)]

theorem parse_of_R {b : List Nat} {n : Nat} (hb : ∀ y ∈ b, y < 256) (hn : n < 18446744073709551616) :
    parse b n none = (parseR b n).bind fun ps => if runsBytes (runs (expand ps)) = runsBytes ps then some ps else none := by
  rw [parse_eq]
  cases hr : parseR b n with
  | none => rfl
  | some ps =>
    obtain ⟨h1, h2, h3⟩ := parseR_some n b ps hb hr
    simp only [Option.bind_some]
    by_cases ha : apart none ps
    · rw [if_pos ha, if_pos (by rw [(apart_iff _).1 ha])]
    · rw [if_neg ha, if_neg]
      intro e
      refine ha ((apart_iff _).2 (runsBytes_inj (runs_all (by omega) (expand_InI fun p hp => (h3 p hp).2.2)) h3 e))

/-! ### differences -/
def dFrom : Int → List Int → List Int
  | _, [] => []
  | p, y :: t => wrap64 (y - p) :: dFrom y t
def delta : List Int → List Int
  | [] => []
  | x :: t => x :: dFrom x t
def uFrom : Int → List Int → List Int
  | _, [] => []
  | p, y :: t => wrap64 (y + p) :: uFrom (wrap64 (y + p)) t
def undelta : List Int → List Int
  | [] => []
  | x :: t => x :: uFrom x t

theorem wrap64_InI (x : Int) : InI (wrap64 x) := by
  unfold InI wrap64; omega
theorem dFrom_len : ∀ (p : Int) (l : List Int), (dFrom p l).length = l.length
  | _, [] => rfl
  | _, y :: t => by simp [dFrom, dFrom_len y t]
theorem delta_len (l : List Int) : (delta l).length = l.length := by cases l <;> simp [delta, dFrom_len]
theorem uFrom_len : ∀ (p : Int) (l : List Int), (uFrom p l).length = l.length
  | _, [] => rfl
  | _, y :: t => by simp [uFrom, uFrom_len _ t]
theorem undelta_len (l : List Int) : (undelta l).length = l.length := by cases l <;> simp [undelta, uFrom_len]
theorem dFrom_InI : ∀ (p : Int) (l : List Int), ∀ x ∈ dFrom p l, InI x
  | _, [], x, h => by cases h
  | p, y :: t, x, h => by
    rcases List.mem_cons.1 h with rfl | h
    · exact wrap64_InI _
    · exact dFrom_InI y t x h
theorem delta_InI {l : List Int} (h : ∀ x ∈ l, InI x) : ∀ x ∈ delta l, InI x := by
  cases l with
  | nil => intro x h; cases h
  | cons y t =>
    intro x hx
    rcases List.mem_cons.1 hx with rfl | hx
    · exact h _ (by simp)
    · exact dFrom_InI _ _ x hx
theorem uFrom_InI : ∀ (p : Int) (l : List Int), ∀ x ∈ uFrom p l, InI x
  | _, [], x, h => by cases h
  | p, y :: t, x, h => by
    rcases List.mem_cons.1 h with rfl | h
    · exact wrap64_InI _
    · exact uFrom_InI _ t x h
theorem undelta_InI {l : List Int} (h : ∀ x ∈ l, InI x) : ∀ x ∈ undelta l, InI x := by
  cases l with
  | nil => intro x h; cases h
  | cons y t =>
    intro x hx
    rcases List.mem_cons.1 hx with rfl | hx
    · exact h _ (by simp)
    · exact uFrom_InI _ _ x hx
theorem wrap_sub_add {y p : Int} (h : InI y) : wrap64 (wrap64 (y - p) + p) = y := by
  unfold InI at h; unfold wrap64; omega
theorem wrap_add_sub {y p : Int} (h : InI y) : wrap64 (wrap64 (y + p) - p) = y := by
  unfold InI at h; unfold wrap64; omega
theorem uFrom_dFrom : ∀ (p : Int) (l : List Int), (∀ x ∈ l, InI x) → uFrom p (dFrom p l) = l
  | _, [], _ => rfl
  | p, y :: t, h => by
    rw [dFrom, uFrom, wrap_sub_add (h y (by simp)), uFrom_dFrom y t (fun x hx => h x (List.mem_cons_of_mem _ hx))]
theorem undelta_delta {l : List Int} (h : ∀ x ∈ l, InI x) : undelta (delta l) = l := by
  cases l with
  | nil => rfl
  | cons y t => rw [delta, undelta, uFrom_dFrom y t (fun x hx => h x (List.mem_cons_of_mem _ hx))]
theorem dFrom_uFrom : ∀ (p : Int) (l : List Int), (∀ x ∈ l, InI x) → dFrom p (uFrom p l) = l
  | _, [], _ => rfl
  | p, y :: t, h => by
    rw [uFrom, dFrom, wrap_add_sub (h y (by simp)), dFrom_uFrom _ t (fun x hx => h x (List.mem_cons_of_mem _ hx))]
theorem delta_undelta {l : List Int} (h : ∀ x ∈ l, InI x) : delta (undelta l) = l := by
  cases l with
  | nil => rfl
  | cons y t => rw [undelta, delta, dFrom_uFrom y t (fun x hx => h x (List.mem_cons_of_mem _ hx))]

theorem dFrom_at : ∀ (p : Int) (l : List Int) (i : Nat) (x y : Int), (p :: l)[i]? = some x → l[i]? = some y → (dFrom p l)[i]? = some (wrap64 (y - x))
  | _, [], i, x, y, _, h => by simp at h
  | p, z :: t, 0, x, y, hx, hy => by
    simp at hx hy
    subst hx hy
    rfl
  | p, z :: t, i + 1, x, y, hx, hy => by
    simp at hx hy
    rw [dFrom, List.getElem?_cons_succ]
    exact dFrom_at z t i x y hx hy
theorem delta_zero {l : List Int} {x : Int} (h : l[0]? = some x) : (delta l)[0]? = some x := by
  cases l with
  | nil => simp at h
  | cons z t => simpa [delta] using h
theorem delta_at {l : List Int} {i : Nat} {x y : Int} (hx : l[i]? = some x) (hy : l[i + 1]? = some y) : (delta l)[i + 1]? = some (wrap64 (y - x)) := by
  cases l with
  | nil => simp at hx
  | cons z t =>
    rw [delta, List.getElem?_cons_succ]
    exact dFrom_at z t i x y hx (by simpa using hy)
theorem uFrom_at : ∀ (p : Int) (l : List Int) (i : Nat) (x y : Int), (p :: uFrom p l)[i]? = some x → l[i]? = some y → (uFrom p l)[i]? = some (wrap64 (y + x))
  | _, [], i, x, y, _, h => by simp at h
  | p, z :: t, 0, x, y, hx, hy => by
    simp at hx hy
    subst hx hy
    rfl
  | p, z :: t, i + 1, x, y, hx, hy => by
    rw [uFrom] at hx ⊢
    rw [List.getElem?_cons_succ] at hx ⊢
    exact uFrom_at _ t i x y hx (by simpa using hy)
theorem undelta_zero {l : List Int} {x : Int} (h : l[0]? = some x) : (undelta l)[0]? = some x := by
  cases l with
  | nil => simp at h
  | cons z t => simpa [undelta] using h
theorem undelta_at {l : List Int} {i : Nat} {x y : Int} (hx : (undelta l)[i]? = some x) (hy : l[i + 1]? = some y) : (undelta l)[i + 1]? = some (wrap64 (y + x)) := by
  cases l with
  | nil => simp at hy
  | cons z t =>
    rw [undelta] at hx ⊢
    rw [List.getElem?_cons_succ]
    exact uFrom_at z t i x y hx (by simpa using hy)

/-! ### truths -/
def puts (ks : List Nat) : List Nat := ks.flatMap V.put
theorem puts_cons (k : Nat) (ks : List Nat) : puts (k :: ks) = V.put k ++ puts ks := by simp [puts]
theorem puts_append (ks js : List Nat) : puts (ks ++ js) = puts ks ++ puts js := by simp [puts]
theorem puts_byte (ks : List Nat) : ∀ x ∈ puts ks, x < 256 := by
  intro x hx
  simp only [puts, List.mem_flatMap] at hx
  obtain ⟨k, _, h⟩ := hx
  exact V.put_byte k x h
def cntsV (v : Bool) (l : List Bool) : List Nat := (if l.head? = some (!v) then [0] else []) ++ (runs l).map (·.1)
def boolBytes (l : List Bool) : List Nat := puts (cntsV false l)

theorem lead_zero {x : Bool} {l : List Bool} (h : l.head? ≠ some x) : lead x l = 0 := by
  have := lead_rep x 0 l h
  simpa using this

theorem cntsV_step {v : Bool} {l : List Bool} (h : l ≠ []) : cntsV v l = lead v l :: cntsV (!v) (l.drop (lead v l)) := by
  cases l with
  | nil => exact absurd rfl h
  | cons x t =>
    by_cases hx : x = v
    · subst hx
      have e : lead x (x :: t) = lead x t + 1 := by simp [lead]
      have hd := drop_lead_head x t
      unfold cntsV
      rw [e, List.drop_succ_cons, runs_cons]
      have h1 : (x :: t).head? ≠ some (!x) := by simp
      rw [if_neg h1, if_neg (by simpa using hd)]
      simp
    · have hx2 : x = !v := by cases x <;> cases v <;> simp at hx ⊢
      have e : lead v (x :: t) = 0 := by simp [lead, hx]
      unfold cntsV
      rw [e, List.drop_zero, if_pos (by simp [hx2]), if_neg (by simp [hx])]
      simp

def expandB : Bool → List Nat → List Bool
  | _, [] => []
  | v, k :: ks => List.replicate k v ++ expandB (!v) ks

theorem takeWhileB (v : Bool) (l : List Bool) : l = List.replicate (lead v l) v ++ l.drop (lead v l) := takeWhile_lead v l

theorem expandB_cnts : ∀ (n : Nat) (v : Bool) (l : List Bool), 2 * l.length + (if l.head? = some (!v) then 1 else 0) < n → expandB v (cntsV v l) = l
  | 0, _, _, h => by omega
  | n + 1, v, [], _ => by simp [cntsV, runs_nil, expandB]
  | n + 1, v, x :: t, h => by
    rw [cntsV_step (by simp), expandB, expandB_cnts n, ← takeWhileB]
    by_cases hx : x = v
    · subst hx
      have e : lead x (x :: t) = lead x t + 1 := by simp [lead]
      rw [e]
      simp only [List.drop_succ_cons, List.length_drop]
      simp only [List.length_cons] at h
      split at h <;> split <;> omega
    · have e : lead v (x :: t) = 0 := by simp [lead, hx]
      have hx2 : x = !v := by cases x <;> cases v <;> simp at hx ⊢
      rw [e, List.drop_zero]
      rw [if_pos (by simp [hx2])] at h
      rw [if_neg (by simp [hx])]
      omega
theorem expandB_all (l : List Bool) : expandB false (cntsV false l) = l := expandB_cnts _ false l (Nat.lt_succ_self _)

/-- counts that may stand: all but the first are at least 1 -/
def fit1 (first : Bool) : List Nat → Prop
  | [] => True
  | k :: ks => (first = true ∨ 1 ≤ k) ∧ fit1 false ks
theorem cntsV_fit : ∀ (n : Nat) (v : Bool) (l : List Bool) (first : Bool), 2 * l.length + (if l.head? = some (!v) then 1 else 0) < n → (first = true ∨ l.head? ≠ some (!v)) → fit1 first (cntsV v l)
  | 0, _, _, _, h, _ => by omega
  | n + 1, v, [], _, _, _ => by simp [cntsV, runs_nil, fit1]
  | n + 1, v, x :: t, first, h, hf => by
    rw [cntsV_step (by simp)]
    by_cases hx : x = v
    · subst hx
      have e : lead x (x :: t) = lead x t + 1 := by simp [lead]
      have hd := drop_lead_head x t
      rw [e, List.drop_succ_cons]
      refine ⟨.inr (by omega), cntsV_fit n _ _ false ?_ (.inr (by simpa using hd))⟩
      simp only [List.length_drop]
      simp only [List.length_cons] at h
      split at h <;> split <;> omega
    · have e : lead v (x :: t) = 0 := by simp [lead, hx]
      have hx2 : x = !v := by cases x <;> cases v <;> simp at hx ⊢
      have hft : first = true := by
        rcases hf with hf | hf
        · exact hf
        · exact absurd (by simp [hx2]) hf
      rw [e, List.drop_zero]
      refine ⟨.inl hft, cntsV_fit n _ _ false ?_ (.inr (by simp [hx]))⟩
      rw [if_pos (by simp [hx2])] at h
      rw [if_neg (by simp [hx])]
      omega

theorem expandB_head : ∀ (ks : List Nat) (v : Bool), fit1 false ks → (expandB v ks).head? ≠ some (!v)
  | [], _, _ => by simp [expandB]
  | k :: ks, v, h => by
    have h1 : 1 ≤ k := by rcases h.1 with h | h; cases h; exact h
    obtain ⟨m, rfl⟩ : ∃ m, k = m + 1 := ⟨k - 1, by omega⟩
    simp [expandB, List.replicate_succ]

theorem cnts_expandB : ∀ (ks : List Nat) (v : Bool) (first : Bool), fit1 first ks → ks ≠ [0] → cntsV v (expandB v ks) = ks
  | [], v, _, _, _ => by simp [expandB, cntsV, runs_nil]
  | k :: ks, v, first, h, hz => by
    have hd : (expandB (!v) ks).head? ≠ some v := by
      have := expandB_head ks (!v) h.2
      simpa using this
    have hl : lead v (expandB v (k :: ks)) = k := lead_rep v k _ hd
    have hne : expandB v (k :: ks) ≠ [] := by
      intro e
      have e2 := congrArg List.length e
      simp [expandB] at e2
      obtain ⟨rfl, e3⟩ := e2
      cases ks with
      | nil => exact hz rfl
      | cons j js =>
        have h1 : 1 ≤ j := by rcases h.2.1 with h | h; cases h; exact h
        rw [expandB] at e3
        have := congrArg List.length e3
        simp at this
        omega
    rw [cntsV_step hne, hl]
    have hdrop : (expandB v (k :: ks)).drop k = expandB (!v) ks := by rw [expandB]; exact List.drop_left' (by simp)
    rw [hdrop]
    congr 1
    refine cnts_expandB ks (!v) false h.2 ?_
    rintro rfl
    have := h.2.1
    simp at this

def parseB (b : List Nat) (left : Nat) (first : Bool) : Option (List Nat) :=
  if left = 0 then some [] else
  match V.take b with
  | none => none
  | some (k, i) => if h : (k = 0 ∧ first = false) ∨ left < k then none else (parseB (b.drop i) (left - k) false).map (k :: ·)
termination_by 2 * left + (if first then 1 else 0)
decreasing_by
  have : k = 0 → first = true := fun h1 => by cases first; exact absurd (.inl ⟨h1, rfl⟩) h; rfl
  rcases Nat.eq_zero_or_pos k with h0 | h0
  · simp [this h0, h0]
  · split <;> simp <;> omega

theorem parseB_zero (b : List Nat) (o : Bool) : parseB b 0 o = some [] := by rw [parseB]; simp
theorem parseB_none {b : List Nat} {left : Nat} {o : Bool} (hl : left ≠ 0) (h : V.take b = none) : parseB b left o = none := by rw [parseB]; simp [hl, h]
theorem parseB_bad {b : List Nat} {left : Nat} {o : Bool} {k i : Nat} (hl : left ≠ 0) (h : V.take b = some (k, i)) (hb : (k = 0 ∧ o = false) ∨ left < k) : parseB b left o = none := by rw [parseB]; simp only [if_neg hl, h, dif_pos hb]
theorem parseB_next {b : List Nat} {left : Nat} {o : Bool} {k i : Nat} (hl : left ≠ 0) (h : V.take b = some (k, i)) (hb : ¬ ((k = 0 ∧ o = false) ∨ left < k)) : parseB b left o = (parseB (b.drop i) (left - k) false).map (k :: ·) := by rw [parseB]; simp only [if_neg hl, h, dif_neg hb]

theorem parseB_some : ∀ (m left : Nat) (b : List Nat) (first : Bool) (ks : List Nat), 2 * left + (if first then 1 else 0) < m → (∀ y ∈ b, y < 256) → parseB b left first = some ks →
    (∃ rest, b = puts ks ++ rest) ∧ ks.sum = left ∧ fit1 first ks ∧ ks ≠ [0] ∧ (∀ k ∈ ks, k < 18446744073709551616)
  | 0, _, _, _, _, h, _, _ => by omega
  | m + 1, left, b, first, ks, hm, hb, h => by
    by_cases hl : left = 0
    · subst hl
      rw [parseB_zero] at h
      injection h with h; subst h
      exact ⟨⟨b, by simp [puts]⟩, rfl, trivial, by simp, by simp⟩
    · cases ht : V.take b with
      | none => rw [parseB_none hl ht] at h; cases h
      | some r =>
        obtain ⟨k, i⟩ := r
        by_cases h1 : (k = 0 ∧ first = false) ∨ left < k
        · rw [parseB_bad hl ht h1] at h; cases h
        · rw [parseB_next hl ht h1] at h
          obtain ⟨qs, hq, rfl⟩ := Option.map_eq_some_iff.1 h
          obtain ⟨rest, e, rfl, hk⟩ := V.take_some hb ht
          have hd : b.drop (V.put k).length = rest := by
            conv => lhs; rw [e]
            rw [List.drop_left]
          rw [hd] at hq
          have hk0 : k = 0 → first = true := fun h2 => by cases first; exact absurd (.inl ⟨h2, rfl⟩) h1; rfl
          have hlt : ¬ left < k := fun h2 => h1 (.inr h2)
          obtain ⟨⟨r2, e2⟩, hs, hf, hz, hall⟩ := parseB_some m (left - k) rest false qs (by
            rcases Nat.eq_zero_or_pos k with h0 | h0
            · simp [hk0 h0] at hm; simp [h0]; omega
            · split at hm <;> simp <;> omega) (fun y hy => hb y (by rw [e]; exact List.mem_append_right _ hy)) hq
          refine ⟨⟨r2, by rw [puts_cons, List.append_assoc, ← e2]; exact e⟩, by simp; omega, ⟨?_, hf⟩, ?_, ?_⟩
          · rcases Nat.eq_zero_or_pos k with h0 | h0
            · exact .inl (hk0 h0)
            · exact .inr h0
          · intro e3
            simp at e3
            obtain ⟨rfl, rfl⟩ := e3
            simp at hs
            omega
          · intro j hj
            rcases List.mem_cons.1 hj with rfl | hj
            · exact hk
            · exact hall j hj

theorem expandB_len : ∀ (ks : List Nat) (v : Bool), (expandB v ks).length = ks.sum
  | [], _ => rfl
  | k :: ks, v => by rw [expandB]; simp [expandB_len ks]

theorem parseB_put : ∀ (ks : List Nat) (first : Bool) (more : List Nat), fit1 first ks → ks ≠ [0] → (∀ k ∈ ks, k < 18446744073709551616) → parseB (puts ks ++ more) ks.sum first = some ks
  | [], _, more, _, _, _ => by simp [parseB_zero]
  | k :: ks, first, more, h, hz, ha => by
    have hne : ks ≠ [0] := by
      rintro rfl
      have := h.2.1
      simp at this
    have hs0 : (k :: ks).sum ≠ 0 := by
      intro e
      simp only [List.sum_cons] at e
      obtain rfl : k = 0 := by omega
      cases ks with
      | nil => exact hz rfl
      | cons j js =>
        have h1 : 1 ≤ j := by rcases h.2.1 with h | h; cases h; exact h
        simp at e
        omega
    rw [puts_cons, List.append_assoc, parseB_next hs0 (V.take_put k _ (ha k (by simp))), List.drop_left]
    · have e : (k :: ks).sum - k = ks.sum := by simp
      rw [e, parseB_put ks false more h.2 hne (fun j hj => ha j (List.mem_cons_of_mem _ hj))]
      rfl
    · rintro (⟨h1, h2⟩ | h1)
      · rcases h.1 with h3 | h3
        · rw [h2] at h3; cases h3
        · omega
      · simp at h1; omega

theorem cnts_sum (l : List Bool) : (cntsV false l).sum = l.length := by
  have := expandB_len (cntsV false l) false
  rw [expandB_all] at this
  exact this.symm
theorem cnts_fit (l : List Bool) : fit1 true (cntsV false l) := cntsV_fit _ false l true (Nat.lt_succ_self _) (.inl rfl)
theorem cnts_ne (l : List Bool) : cntsV false l ≠ [0] := by
  intro e
  have h := expandB_all l
  rw [e] at h
  simp [expandB] at h
  subst h
  simp [cntsV, runs_nil] at e
theorem mem_le_sum : ∀ (ks : List Nat) (k : Nat), k ∈ ks → k ≤ ks.sum
  | [], _, h => by cases h
  | j :: js, k, h => by
    rcases List.mem_cons.1 h with rfl | h
    · simp
    · have := mem_le_sum js k h; simp; omega
/-- there and back -/
theorem parseB_bytes {l : List Bool} (hl : l.length < 18446744073709551616) (more : List Nat) : parseB (boolBytes l ++ more) l.length true = some (cntsV false l) := by
  have := parseB_put (cntsV false l) true more (cnts_fit l) (cnts_ne l) (fun k hk => by have := mem_le_sum _ k hk; rw [cnts_sum] at this; omega)
  rw [cnts_sum] at this
  exact this
/-- what is taken is what is put -/
theorem parseB_back {b : List Nat} {n : Nat} {ks : List Nat} (hb : ∀ y ∈ b, y < 256) (h : parseB b n true = some ks) :
    (∃ rest, b = puts ks ++ rest) ∧ (expandB false ks).length = n ∧ boolBytes (expandB false ks) = puts ks := by
  obtain ⟨h1, h2, h3, h4, _⟩ := parseB_some _ n b true ks (Nat.lt_succ_self _) hb h
  exact ⟨h1, by rw [expandB_len, h2], by rw [boolBytes, cnts_expandB ks false true h3 h4]⟩
end Go.Proofs.Ytokpcpopibpebaa
