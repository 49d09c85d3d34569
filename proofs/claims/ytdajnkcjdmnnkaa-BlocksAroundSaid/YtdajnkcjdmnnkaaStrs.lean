/-
  Bytes: slices of bytes as lists, bytes as strings.
-/
import Derived.Test.YtdajnkcjdmnnkaaProg
import Derived.Test.YtdajnkcjdmnnkaaKit
import Derived.Laws.BytesArg
import Derived.Deep.QuietTactic
import Derived.BigQuiet
namespace Go.Proofs.Ytdajnkcjdmnnkaa
open Go Go.RowKit
set_option linter.unusedVariables false

theorem info5 : (Try.prog.info? 5).map (fun i => (i.zero, i.size, i.bytes)) = some (some (.int .u8 0), 1, 1) := by kernel_rfl

/-- bytes, as cells -/
def by8 (l : List Nat) : List Value := l.map fun (x : Nat) => Value.int .u8 (x : Int)
theorem by8_len (l : List Nat) : (by8 l).length = l.length := by simp [by8]
theorem by8_append (l r : List Nat) : by8 (l ++ r) = by8 l ++ by8 r := by simp [by8]
theorem by8_one (l : List Nat) : ∀ u ∈ by8 l, u.oneCell' = true := by
  intro u hu
  simp only [by8, List.mem_map] at hu
  obtain ⟨x, _, rfl⟩ := hu
  rfl

/-- bytes as a string -/
def str8 (l : List Nat) : ByteArray := ⟨(l.map UInt8.ofNat).toArray⟩
theorem str8_nil : str8 [] = ⟨#[]⟩ := rfl
theorem str8_append (a b : List Nat) : str8 (a ++ b) = str8 a ++ str8 b := by
  apply ByteArray.ext
  simp [str8]
theorem str8_size (l : List Nat) : (str8 l).size = l.length := by simp [str8, ByteArray.size]

theorem str8_inj {l r : List Nat} (hl : ∀ x ∈ l, x < 256) (hr : ∀ x ∈ r, x < 256) (h : str8 l = str8 r) : l = r := by
  have h1 : l.map UInt8.ofNat = r.map UInt8.ofNat := by
    unfold str8 at h
    injection h with h
    exact congrArg Array.toList h
  have h2 := congrArg (List.map UInt8.toNat) h1
  have e : ∀ s : List Nat, (∀ x ∈ s, x < 256) → (s.map UInt8.ofNat).map UInt8.toNat = s := by
    intro s hs
    rw [List.map_map]
    conv => rhs; rw [← List.map_id s]
    refine List.map_congr_left fun x hx => ?_
    have := hs x hx
    simp [UInt8.toNat_ofNat']
    omega
  rw [e l hl, e r hr] at h2
  exact h2

theorem str8_beq {l l' : List Nat} (hl : ∀ x ∈ l, x < 256) (hl' : ∀ x ∈ l', x < 256) : ((str8 l).toList == (str8 l').toList) = decide (l = l') := by
  rw [ByteArray.toList_eq, ByteArray.toList_eq, Bool.eq_iff_iff]
  simp only [beq_iff_eq, decide_eq_true_eq]
  refine ⟨fun h => str8_inj hl hl' ?_, fun h => by rw [h]⟩
  exact congrArg ByteArray.mk (Array.ext' h)

theorem run_str {w : World} {B : Nat} {A : Option Addr} {n : Nat} {l : List Nat} (h : Rd w B 1 A n (by8 l)) (c : Nat) :
    (convert 45 9 (.slice A n c)).run Try.prog w = .ok (.string (str8 l)) w := by
  have hlen : l.length = n := by simpa [by8_len] using h.len1
  have hs : strOfNums (l.map fun (x : Nat) => (x : Int)) = str8 l := by simp [strOfNums, str8, Function.comp_def]
  rcases Nat.eq_zero_or_pos n with h0 | h0
  · subst h0
    have hl : l = [] := List.eq_nil_of_length_eq_zero hlen
    subst hl
    cases A with
    | none =>
      rw [run_convert_bytes_nil w 45 5 Try.underlying45 Try.underlying5 0 c 9 Try.underlying9]
      rfl
    | some a =>
      rw [run_convert_bytes_string w 45 9 5 _ 0 c Try.underlying45 Try.underlying5 Try.underlying9, run_bytesToString w a 0 c [] (by simp [loadCells, loadCellsFrom])]
      rfl
  · obtain ⟨b, off, rfl, _, hc⟩ := h.at_ h0
    rw [run_convert_bytes_arg w 45 5 Try.underlying45 Try.underlying5 b off n c (l.map fun (x : Nat) => (x : Int)) (by simpa using hlen) (fun i hi => ?_) 9 Try.underlying9, hs]
    rw [hc i (.int .u8 (l[i]'(by omega) : Nat)) (by simp [by8, show i < l.length by omega])]
    simp [List.getD, show i < l.length by omega]

theorem run_str_drewN {w : World} {B : Nat} {A : Option Addr} {n : Nat} {l : List Nat} (h : Rd w B 1 A n (by8 l)) (c nq : Nat) :
    (convert 45 9 (.slice A n c)).run Try.prog (w.drewN nq) = .ok (.string (str8 l)) (w.drewN nq) := run_str (w := w.drewN nq) h c

theorem below_draws {B : Nat} {W w : World} (h : Below B W w) (nq : Nat) : Below B W (w.drewN nq) := ⟨h.os, h.tape, h.output, h.size, h.block⟩
theorem ret_int {k : IntKind} {a b : Int} (h : a = b) : Ending.returned (.int k a) = .returned (.int k b) := by rw [h]
theorem ret_str {a b : ByteArray} (h : a = b) : Ending.returned (.string a) = .returned (.string b) := by rw [h]

/-- where a cut begins: the model's own word; elements of sz cells -/
theorem Rd.dropN {w : World} {B sz n : Nat} {A : Option Addr} {xs : List Value} {k c : Nat} (h : Rd w B sz A n xs) (hk : k ≤ n) (hc : n ≤ c) :
    Rd w B sz (if c = k then A else A.map (·.add (k * sz))) (n - k) (xs.drop (k * sz)) := by
  refine ⟨by rw [List.length_drop, h.1, Nat.sub_mul], ?_⟩
  rcases Nat.eq_zero_or_pos (n - k) with h0 | h0
  · exact .inl h0
  · obtain ⟨b, off, e, hb, hcell⟩ := h.at_ (by omega)
    refine .inr ⟨b, off + k * sz, ?_, hb, fun j u hu => ?_⟩
    · rw [if_neg (by omega), e]; simp [addr_add]
    · rw [Nat.add_assoc]
      exact hcell (k * sz + j) u (by rw [← hu, List.getElem?_drop])
section
variable {P : Program} (w : World)
/-- the same, where the block's number is spelled otherwise. -/
theorem wpList_app1x {ops : Array Oper} {rest : List Oper} {o : Oper} {a : Act} {Q : Exit → Act → World → Prop} (hgd : o.guard = none) (s x : Operand) (t : TypeId)
    (ho : o.op = .call { callee := .builtin .append, args := #[s, x], argTypes := #[t, t] })
    (W : World) (base : Nat) (e : TypeId) (z : Value) (bytes : Nat) (ht : P.underlying t = some (.slice e)) (hinf : (P.info? e).map (fun i => (i.zero, i.size, i.bytes)) = some (some z, 1, bytes))
    (hzs : z.cells.size = 1)
    (w0 : World) (y : Value) (hw : w = w0.alloc (.cells #[y] e)) (hy : y.oneCell' = true)
    (v : Value) (n : Nat) (xs : List Value) (hs : a.eval s = v) (hown : w0.ownsRow base e 1 v n xs)
    (g : Nat) (hgz : w0.heap.size = g) (hx : a.eval x = .slice (some ⟨g, 0, none⟩) 1 1)
    (h63 : n + 1 ≤ maxLen) (hbytes : (n + 1) * bytes ≤ 140737488355328) (hbel : Below base W w0) (hbase : base ≤ W.heap.size)
    (h : ∀ A' c' w', w'.ownsRow base e 1 (.slice A' (n + 1) c') (n + 1) (xs ++ [y]) → w.grownBy w' v.ownBlock → Below base W w' → wpList P ops Q rest (a.put o.dst (.slice A' (n + 1) c')) w') : wpList P ops Q (o :: rest) a w := by
  subst hgz
  exact wpList_app1 (P := P) w hgd s x t ho W base e z bytes ht hinf hzs w0 y hw hy v n xs hs hown hx h63 hbytes hbel hbase h
end
end Go.Proofs.Ytdajnkcjdmnnkaa
