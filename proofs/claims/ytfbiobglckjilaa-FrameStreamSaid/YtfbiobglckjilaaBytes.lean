/-
  Bytes: slices of bytes as lists, bytes as strings; the walk of stemmaref03.Same.
-/
import Derived.Test.YtfbiobglckjilaaProg
import Derived.Test.YtfbiobglckjilaaKit
import Derived.Laws.BytesArg
import Derived.Deep.QuietTactic
import Derived.BigQuiet
namespace Go.Proofs.Ytfbiobglckjilaa
open Go Go.RowKit
set_option linter.unusedVariables false

theorem info5 : (Try.prog.info? 5).map (fun i => (i.zero, i.size, i.bytes)) = some (some (.int .u8 0), 1, 1) := by kernel_rfl

/-- bytes, as cells -/
def by8 (l : List Nat) : List Value := l.map fun (x : Nat) => Value.int .u8 (x : Int)
theorem by8_len (l : List Nat) : (by8 l).length = l.length := by simp [by8]
theorem by8_append (l r : List Nat) : by8 (l ++ r) = by8 l ++ by8 r := by simp [by8]

/-- WHAT A CALL MADE: a new slice of bytes; below the heap's old size nothing has turned. -/
def Made8 (xs : List Nat) (w : World) (e : Ending) (w' : World) : Prop :=
  ∃ A c, e = .returned (.slice A xs.length c) ∧ w'.ownsRow w.heap.size 5 1 (.slice A xs.length c) xs.length (by8 xs) ∧ Below w.heap.size w w'

theorem Made8.mk {xs : List Nat} {w w1 : World} {A : Option Addr} {n c : Nat} {cells : List Value} {e : Ending} (he : e = .returned (.slice A n c))
    (hown : w1.ownsRow w.heap.size 5 1 (.slice A n c) n cells) (hB : Below w.heap.size w w1) (hc : cells = by8 xs) : Made8 xs w e w1 := by
  subst hc
  have hn : n = xs.length := by simpa [by8_len] using hown.1.symm
  subst hn
  exact ⟨A, c, he, hown, hB⟩

/-- bytes as a string -/
def str8 (l : List Nat) : ByteArray := ⟨(l.map UInt8.ofNat).toArray⟩

theorem str8_inj {l r : List Nat} (hl : ∀ x ∈ l, x < 256) (hr : ∀ x ∈ r, x < 256) (h : str8 l = str8 r) : l = r := by
  have h1 : l.map UInt8.ofNat = r.map UInt8.ofNat := by
    unfold str8 at h
    injection h with h
    exact congrArg Array.toList h
  have h2 := congrArg (List.map UInt8.toNat) h1
  have e : ∀ s : List Nat, (∀ x ∈ s, x < 256) → (s.map UInt8.ofNat).map UInt8.toNat = s := by
    intro s hs
    rw [List.map_map]
    conv => rhs; rw [← List.map_id s]
    refine List.map_congr_left fun x hx => ?_
    have := hs x hx
    simp [UInt8.toNat_ofNat']
    omega
  rw [e l hl, e r hr] at h2
  exact h2

theorem str8_beq {l l' : List Nat} (hl : ∀ x ∈ l, x < 256) (hl' : ∀ x ∈ l', x < 256) : ((str8 l).toList == (str8 l').toList) = decide (l = l') := by
  rw [ByteArray.toList_eq, ByteArray.toList_eq, Bool.eq_iff_iff]
  simp only [beq_iff_eq, decide_eq_true_eq]
  refine ⟨fun h => str8_inj hl hl' ?_, fun h => by rw [h]⟩
  exact congrArg ByteArray.mk (Array.ext' h)

theorem run_str {w : World} {B : Nat} {A : Option Addr} {n : Nat} {l : List Nat} (h : Rd w B 1 A n (by8 l)) (c : Nat) :
    (convert 22 9 (.slice A n c)).run Try.prog w = .ok (.string (str8 l)) w := by
  have hlen : l.length = n := by simpa [by8_len] using h.len1
  have hs : strOfNums (l.map fun (x : Nat) => (x : Int)) = str8 l := by simp [strOfNums, str8, Function.comp_def]
  rcases Nat.eq_zero_or_pos n with h0 | h0
  · subst h0
    have hl : l = [] := List.eq_nil_of_length_eq_zero hlen
    subst hl
    cases A with
    | none =>
      rw [run_convert_bytes_nil w 22 5 Try.underlying22 Try.underlying5 0 c 9 Try.underlying9]
      rfl
    | some a =>
      rw [run_convert_bytes_string w 22 9 5 _ 0 c Try.underlying22 Try.underlying5 Try.underlying9, run_bytesToString w a 0 c [] (by simp [loadCells, loadCellsFrom])]
      rfl
  · obtain ⟨b, off, rfl, _, hc⟩ := h.at_ h0
    rw [run_convert_bytes_arg w 22 5 Try.underlying22 Try.underlying5 b off n c (l.map fun (x : Nat) => (x : Int)) (by simpa using hlen) (fun i hi => ?_) 9 Try.underlying9, hs]
    rw [hc i (.int .u8 (l[i]'(by omega) : Nat)) (by simp [by8, show i < l.length by omega])]
    simp [List.getD, show i < l.length by omega]

theorem same_any {w : World} {B B' : Nat} {A A' : Option Addr} {n n' c c' : Nat} {l l' : List Nat} (h : Rd w B 1 A n (by8 l)) (h' : Rd w B' 1 A' n' (by8 l')) (hl : ∀ x ∈ l, x < 256) (hl' : ∀ x ∈ l', x < 256) :
    Calls Try.prog 12 #[.slice A n c, .slice A' n' c'] w fun e w' => e = .returned (.bool (decide (l = l'))) ∧ w = w' := by
  have k1 := run_str h c
  have k2 := run_str h' c'
  clear h h'
  go_enter Try.func12, Try.ntmps12
  go_wp2
  go_ret
  refine ⟨?_, rfl⟩
  have e := str8_beq hl hl'
  show Ending.returned (.bool _) = _
  rw [e]
theorem by8_one (l : List Nat) : ∀ u ∈ by8 l, u.oneCell' = true := by
  intro u hu
  simp only [by8, List.mem_map] at hu
  obtain ⟨x, _, rfl⟩ := hu
  rfl

theorem own_base {w : World} {base base' : Nat} {e : TypeId} {size : Nat} {v : Value} {n : Nat} {xs : List Value} (h : w.ownsRow base e size v n xs) (hb : base' ≤ base) : w.ownsRow base' e size v n xs :=
  ⟨h.1, h.2.imp id fun ⟨g, cap, cur, hv, hg, r⟩ => ⟨g, cap, cur, hv, Nat.le_trans hb hg, r⟩⟩

/-- own: a copy of bytes with one more behind. -/
structure OwnCopy (w : World) (g n c : Nat) (l : List Nat) : Prop where
  row : w.ownsRow 0 5 1 (.slice (some ⟨g, 0, none⟩) (n + 1) c) (n + 1) (by8 l ++ [.int .u8 77])
  len : l.length = n

theorem OwnCopy.rd {w : World} {g n c : Nat} {l : List Nat} (h : OwnCopy w g n c l) : Rd w w.heap.size 1 (some ⟨g, 0, none⟩) n (by8 l) := by
  have := (Rd.of_own h.row).take1 (k := n) (by omega)
  rwa [List.take_append_of_le_length (by rw [by8_len, h.len]; omega), List.take_of_length_le (by rw [by8_len, h.len]; omega)] at this
theorem OwnCopy.last {w : World} {g n c : Nat} {l : List Nat} (h : OwnCopy w g n c l) : w.cell? ⟨g, n, none⟩ = some (.int .u8 77) := by
  rw [h.row.cellAt n (by omega), List.getElem?_append_right (by rw [by8_len, h.len]; omega)]
  simp [by8_len, h.len]
theorem OwnCopy.lt {w : World} {g n c : Nat} {l : List Nat} (h : OwnCopy w g n c l) : g < w.heap.size := (h.row.lt g rfl).2
theorem OwnCopy.cap {w : World} {g n c : Nat} {l : List Nat} (h : OwnCopy w g n c l) : n + 1 ≤ c ∧ c ≤ maxLen := by
  obtain ⟨A, c', hv, h1, h2⟩ := own_slice h.row
  injection hv with _ _ hc
  subst hc
  exact ⟨h1, h2⟩

theorem run_str_drewN {w : World} {B : Nat} {A : Option Addr} {n : Nat} {l : List Nat} (h : Rd w B 1 A n (by8 l)) (c nq : Nat) :
    (convert 22 9 (.slice A n c)).run Try.prog (w.drewN nq) = .ok (.string (str8 l)) (w.drewN nq) := run_str (w := w.drewN nq) h c

theorem below_draws {B : Nat} {W w : World} (h : Below B W w) (nq : Nat) : Below B W (w.drewN nq) := ⟨h.os, h.tape, h.output, h.size, h.block⟩

theorem ret_int {k : IntKind} {a b : Int} (h : a = b) : Ending.returned (.int k a) = .returned (.int k b) := by rw [h]
end Go.Proofs.Ytfbiobglckjilaa
