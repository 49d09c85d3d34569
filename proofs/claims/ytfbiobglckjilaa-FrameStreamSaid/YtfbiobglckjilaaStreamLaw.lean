/-
  Plain laws of a stream of frames.
-/
import Derived.Test.YtfbiobglckjilaaOpenS
import Derived.Test.YtfbiobglckjilaaBackLaw
namespace Go.Proofs.Ytfbiobglckjilaa

def wraps (es : List Elem) : List Nat := (es.map fun e => F.wrap e.k e.l).flatten
def endFrame : List Nat := F.wrap 1 [101, 110, 100]
def restOf (es : List Elem) (n m i : Nat) : List Nat := wraps ((es.take n).drop i) ++ endFrame.take m

theorem wraps_nil : wraps [] = [] := rfl
theorem wraps_succ {es : List Elem} {i : Nat} {e : Elem} (h : es[i]? = some e) : wraps (es.take (i + 1)) = wraps (es.take i) ++ F.wrap e.k e.l := by
  have hi : i < es.length := by
    rcases Nat.lt_or_ge i es.length with h1 | h1
    · exact h1
    · rw [List.getElem?_eq_none h1] at h; cases h
  rw [List.getElem?_eq_getElem hi] at h
  injection h with h
  rw [List.take_succ_eq_append_getElem hi, h]
  simp [wraps]
theorem rest_zero (es : List Elem) (n m : Nat) : restOf es n m 0 = wraps (es.take n) ++ endFrame.take m := by simp [restOf]
theorem rest_end (es : List Elem) (n m : Nat) : restOf es n m n = endFrame.take m := by
  have : (es.take n).drop n = [] := List.drop_eq_nil_of_le (List.length_take_le _ _)
  simp [restOf, this, wraps]
theorem rest_step {es : List Elem} {n m i : Nat} {e : Elem} (h : es[i]? = some e) (hi : i < n) : restOf es n m i = F.wrap e.k e.l ++ restOf es n m (i + 1) := by
  have hl : i < es.length := by
    rcases Nat.lt_or_ge i es.length with h1 | h1
    · exact h1
    · rw [List.getElem?_eq_none h1] at h; cases h
  have hl2 : i < (es.take n).length := by rw [List.length_take]; omega
  rw [List.getElem?_eq_getElem hl] at h
  injection h with h
  have hg : (es.take n)[i] = e := by rw [List.getElem_take]; exact h
  unfold restOf
  rw [List.drop_eq_getElem_cons hl2, hg]
  simp [wraps, List.append_assoc]
theorem wraps_byte {es : List Elem} (h : ∀ e ∈ es, e.k < 256 ∧ ∀ x ∈ e.l, x < 256) : ∀ x ∈ wraps es, x < 256 := by
  intro x hx
  simp only [wraps, List.mem_flatten, List.mem_map] at hx
  obtain ⟨t, ⟨e, he, rfl⟩, hx⟩ := hx
  exact F.wrap_byte (h e he).1 (h e he).2 x hx
theorem endFrame_byte : ∀ x ∈ endFrame, x < 256 := F.wrap_byte (by omega) (by simp)
theorem endFrame_len : endFrame.length = 14 := by simp [endFrame, F.wrap_len]
theorem rest_byte {es : List Elem} (h : ∀ e ∈ es, e.k < 256 ∧ ∀ x ∈ e.l, x < 256) (n m i : Nat) : ∀ x ∈ restOf es n m i, x < 256 := by
  intro x hx
  rcases List.mem_append.1 hx with h1 | h1
  · exact wraps_byte (fun e he => h e (List.mem_of_mem_take (List.mem_of_mem_drop he))) x h1
  · exact endFrame_byte x (List.mem_of_mem_take h1)
end Go.Proofs.Ytfbiobglckjilaa
