/-
  A node in a row: its six cells; what sort answers, case by case; how fit goes on behind a node that stays, behind a run.
-/
import Derived.Test.YtcdhndhgainadaaWrapF
namespace Go.Proofs.Ytcdhndhgainadaa
open Go Go.RowKit
set_option linter.unusedVariables false
set_option linter.unusedSimpArgs false

section
variable {w : World} {S : Nat → Prop} {A : Option Addr} {n c j : Nat} {ts : List RT}
theorem RdN.nodeAt (h : RdF w S A n c ts) (hj : j < n) : ∃ b off t u0 u1 u2 u3 u3n u3c u4 u4n u4c u5 u5n u5c, A = some ⟨b, off, none⟩ ∧ ts[j]? = some t ∧ b < w.heap.size ∧ S b ∧ t.kind = u2 ∧
    NdF w S [.int .i64 u0, .int .i64 u1, .string u2, .slice u3 u3n u3c, .slice u4 u4n u4c, .slice u5 u5n u5c] t ∧
    w.cell? ⟨b, off + j * 6, none⟩ = some (.int .i64 u0) ∧ w.cell? ⟨b, off + j * 6 + 1, none⟩ = some (.int .i64 u1) ∧ w.cell? ⟨b, off + j * 6 + 2, none⟩ = some (.string u2) ∧
    w.cell? ⟨b, off + j * 6 + 3, none⟩ = some (.slice u3 u3n u3c) ∧ w.cell? ⟨b, off + j * 6 + 4, none⟩ = some (.slice u4 u4n u4c) ∧ w.cell? ⟨b, off + j * 6 + 5, none⟩ = some (.slice u5 u5n u5c) := by
  obtain ⟨zs, rfl, h⟩ := h
  obtain ⟨b, off, z, hA, hb, hz, hm, hR, hc⟩ := h.at_ (by decide) hj
  obtain ⟨u0, u1, u2, u3, u3n, u3c, u4, u4n, u4c, u5, u5n, u5c, ua, ut, uk, hsix, hup⟩ := hR.parts
  rw [hsix] at hc hR
  have hc' := fun jj v hv => (only_cell.1 (hc jj v hv)).2
  exact ⟨b, off, z.1.2, u0, u1, u2, u3, u3n, u3c, u4, u4n, u4c, u5, u5n, u5c, hA, vz_at hz, hb, (only_cell.1 (hc 0 _ rfl)).1, by rw [hup.tree]; rfl, hR, hc' 0 _ rfl, hc' 1 _ rfl, hc' 2 _ rfl, hc' 3 _ rfl, hc' 4 _ rfl, hc' 5 _ rfl⟩
end

theorem sort_non {p k : Kd} (hp : Par p) (hn : p ≠ .table) (hk : k.known = true) (hd : k ≠ .doc) : sortN p k = (srt p k).code p := by
  have := sortN_srt hp hk hd
  rwa [fixN, if_neg (fun h => hn h.1)] at this
theorem sort_tab {k : Kd} (hk : k.known = true) (hd : k ≠ .doc) :
    (sortN .table k = 2 ∧ (srt .table k).code .table = 5) ∨ (sortN .table k ≠ 2 ∧ sortN .table k = (srt .table k).code .table) := by
  cases k <;> first | (exact absurd hk (by decide)) | (exact absurd rfl hd) | (left; exact ⟨rfl, rfl⟩) | (right; exact ⟨by decide, rfl⟩)
theorem code_stay {p : Kd} {s : Srt} : s.code p = 0 ↔ s = .stay := by
  cases s <;> simp [Srt.code] <;> split <;> decide

theorem fitT_out (p : Kd) (l : List RT) : fitT p l = outOf p (runsBy (fun t => srt p t.kdOf) l) := rfl
theorem fitT_stay {p : Kd} {t : RT} (h : srt p t.kdOf = .stay) (l : List RT) : fitT p (t :: l) = t :: fitT p l := by
  rw [fitT_out, fitT_out, runsBy]
  cases hr : runsBy (fun t => srt p t.kdOf) l with
  | nil => simp [outOf, h, wrapT]
  | cons q rest =>
    obtain ⟨s, r⟩ := q
    simp only [h]
    split
    · rename_i hs
      subst hs
      simp [outOf, wrapT]
    · simp [outOf, wrapT]
theorem fitT_run {p : Kd} {s : Srt} {l : List RT} {k : Nat} (hk : 1 ≤ k) (hall : ∀ j t, j < k → l[j]? = some t → srt p t.kdOf = s) (hle : k ≤ l.length) (hend : k = l.length ∨ ∃ t, l[k]? = some t ∧ srt p t.kdOf ≠ s) :
    fitT p l = wrapT p s (l.take k) ++ fitT p (l.drop k) := by
  rw [fitT_out, runsBy_first (f := fun t => srt p t.kdOf) hk hall hle hend]
  simp [outOf, fitT_out]
theorem drop_at {ts : List RT} {i : Nat} {t : RT} (h : ts[i]? = some t) : ts.drop i = t :: ts.drop (i + 1) := by
  obtain ⟨h1, rfl⟩ := List.getElem?_eq_some_iff.1 h
  exact List.drop_eq_getElem_cons h1
theorem take_at {ts : List RT} {i k : Nat} {t : RT} (h : ts[i + k]? = some t) : (ts.drop i).take (k + 1) = (ts.drop i).take k ++ [t] := by
  have h2 : (ts.drop i)[k]? = some t := by rw [List.getElem?_drop]; exact h
  obtain ⟨h1, rfl⟩ := List.getElem?_eq_some_iff.1 h2
  exact List.take_succ_eq_append_getElem h1
end Go.Proofs.Ytcdhndhgainadaa
