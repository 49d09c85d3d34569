/-
  The walk of stemmaref03.Same: are bytes one? And bytes made a string.
-/
import Derived.Test.YtokpcpopibpebaaPut
import Derived.Laws.BytesArg
namespace Go.Proofs.Ytokpcpopibpebaa
open Go Go.RowKit

/-- bytes as a string -/
def str8 (l : List Nat) : ByteArray := ⟨(l.map UInt8.ofNat).toArray⟩

theorem str8_inj {l r : List Nat} (hl : ∀ x ∈ l, x < 256) (hr : ∀ x ∈ r, x < 256) (h : str8 l = str8 r) : l = r := by
  have h1 : l.map UInt8.ofNat = r.map UInt8.ofNat := by
    unfold str8 at h
    injection h with h
    exact congrArg Array.toList h
  have h2 := congrArg (List.map UInt8.toNat) h1
  have e : ∀ s : List Nat, (∀ x ∈ s, x < 256) → (s.map UInt8.ofNat).map UInt8.toNat = s := by
    intro s hs
    rw [List.map_map]
    conv => rhs; rw [← List.map_id s]
    refine List.map_congr_left fun x hx => ?_
    have := hs x hx
    simp [UInt8.toNat_ofNat']
    omega
  rw [e l hl, e r hr] at h2
  exact h2

theorem str8_beq {l l' : List Nat} (hl : ∀ x ∈ l, x < 256) (hl' : ∀ x ∈ l', x < 256) : ((str8 l).toList == (str8 l').toList) = decide (l = l') := by
  rw [ByteArray.toList_eq, ByteArray.toList_eq, Bool.eq_iff_iff]
  simp only [beq_iff_eq, decide_eq_true_eq]
  refine ⟨fun h => str8_inj hl hl' ?_, fun h => by rw [h]⟩
  exact congrArg ByteArray.mk (Array.ext' h)

theorem run_str {w : World} {B : Nat} {A : Option Addr} {n : Nat} {l : List Nat} (h : Rd w B 1 A n (by8 l)) (c : Nat) :
    (convert 24 9 (.slice A n c)).run Try.prog w = .ok (.string (str8 l)) w := by
  have hlen : l.length = n := by simpa [by8_len] using h.len1
  have hs : strOfNums (l.map fun (x : Nat) => (x : Int)) = str8 l := by simp [strOfNums, str8, Function.comp_def]
  rcases Nat.eq_zero_or_pos n with h0 | h0
  · subst h0
    have hl : l = [] := List.eq_nil_of_length_eq_zero hlen
    subst hl
    cases A with
    | none =>
      rw [run_convert_bytes_nil w 24 5 Try.underlying24 Try.underlying5 0 c 9 Try.underlying9]
      rfl
    | some a =>
      rw [run_convert_bytes_string w 24 9 5 _ 0 c Try.underlying24 Try.underlying5 Try.underlying9, run_bytesToString w a 0 c [] (by simp [loadCells, loadCellsFrom])]
      rfl
  · obtain ⟨b, off, rfl, _, hc⟩ := h.at_ h0
    rw [run_convert_bytes_arg w 24 5 Try.underlying24 Try.underlying5 b off n c (l.map fun (x : Nat) => (x : Int)) (by simpa using hlen) (fun i hi => ?_) 9 Try.underlying9, hs]
    rw [hc i (.int .u8 (l[i]'(by omega) : Nat)) (by simp [by8, show i < l.length by omega])]
    simp [List.getD, show i < l.length by omega]

theorem same_any {w : World} {B B' : Nat} {A A' : Option Addr} {n n' c c' : Nat} {l l' : List Nat} (h : Rd w B 1 A n (by8 l)) (h' : Rd w B' 1 A' n' (by8 l')) (hl : ∀ x ∈ l, x < 256) (hl' : ∀ x ∈ l', x < 256) :
    Calls Try.prog 16 #[.slice A n c, .slice A' n' c'] w fun e w' => e = .returned (.bool (decide (l = l'))) ∧ w = w' := by
  have k1 := run_str h c
  have k2 := run_str h' c'
  clear h h'
  go_enter Try.func16, Try.ntmps16
  go_wp2
  go_ret
  refine ⟨?_, rfl⟩
  have e := str8_beq hl hl'
  show Ending.returned (.bool _) = _
  rw [e]
end Go.Proofs.Ytokpcpopibpebaa
