/-
  Rows of bytes of the call's own: a store, a copy of a text, the walks of put and get.
-/
import Derived.Test.YtfbiobglckjilaaSum
namespace Go.Proofs.Ytfbiobglckjilaa
open Go Go.RowKit
set_option linter.unusedVariables false

/-- t laid over l from place off on -/
def ovr (l : List Nat) (off : Nat) (t : List Nat) : List Nat := l.take off ++ (t ++ l.drop (off + t.length))
theorem ovr_nil (l : List Nat) (off : Nat) : ovr l off [] = l := by simp [ovr]
theorem ovr_len (l : List Nat) (off : Nat) (t : List Nat) (h : off + t.length ≤ l.length) : (ovr l off t).length = l.length := by simp [ovr]; omega
theorem ovr_step (l : List Nat) (off k x : Nat) (t : List Nat) (ht : t[k]? = some x) (h : off + t.length ≤ l.length) : (ovr l off (t.take k)).set (off + k) x = ovr l off (t.take (k + 1)) := by
  have hk : k < t.length := by
    rcases Nat.lt_or_ge k t.length with h' | h'
    · exact h'
    · rw [List.getElem?_eq_none h'] at ht; cases ht
  have h1 : (l.take off).length = off := by simp; omega
  have h2 : (t.take k).length = k := by simp; omega
  have h3 : (t.take (k + 1)).length = k + 1 := by simp; omega
  have hd : l.drop (off + k) = l[off + k]'(by omega) :: l.drop (off + k + 1) := List.drop_eq_getElem_cons (by omega)
  unfold ovr
  rw [List.set_append_right _ _ (by omega), h1, Nat.add_sub_cancel_left, List.set_append_right _ _ (by omega), h2, h3, Nat.sub_self, hd, List.take_add_one, ht]
  simp [Nat.add_assoc]

/-- A ROW OF BYTES OF THE CALL's OWN: block g, N elements (room for C), which read l. -/
structure Row (w : World) (g N C : Nat) (l : List Nat) : Prop where
  own : w.ownsRow 0 5 1 (.slice (some ⟨g, 0, none⟩) N C) N (by8 l)

section
variable {w w' : World} {g N C : Nat} {l : List Nat}
theorem Row.len (h : Row w g N C l) : l.length = N := by simpa [by8_len] using h.own.1
theorem Row.lt (h : Row w g N C l) : g < w.heap.size := (h.own.lt g rfl).2
theorem Row.cap (h : Row w g N C l) : N ≤ C ∧ C ≤ maxLen := by
  obtain ⟨A, c', hv, h1, h2⟩ := own_slice h.own
  injection hv with _ _ hc
  subst hc
  exact ⟨h1, h2⟩
theorem Row.cell (h : Row w g N C l) {j x : Nat} (hx : l[j]? = some x) : w.cell? ⟨g, j, none⟩ = some (.int .u8 (x : Int)) := by
  have hj : j < l.length := by
    rcases Nat.lt_or_ge j l.length with h' | h'
    · exact h'
    · rw [List.getElem?_eq_none h'] at hx; cases hx
  rw [h.own.cellAt j (by rw [h.len] at hj; omega)]
  simp [by8, hx]
theorem Row.free (h : Row w g N C l) (j : Nat) : w.frozen? ⟨g, j, none⟩ = false := h.own.frozenAt j
theorem Row.store (h : Row w g N C l) (j x : Nat) : Row (w.setCell ⟨g, j, none⟩ (.int .u8 (x : Int))) g N C (l.set j x) ∧ w.grownBy (w.setCell ⟨g, j, none⟩ (.int .u8 (x : Int))) (some g) := by
  obtain ⟨h1, h2⟩ := h.own.stored j (.int .u8 (x : Int))
  refine ⟨⟨?_⟩, h2⟩
  have e : (by8 l).set j (.int .u8 (x : Int)) = by8 (l.set j x) := by simp [by8, List.map_set]
  rwa [e] at h1
theorem Row.rd (h : Row w g N C l) : Rd w w.heap.size 1 (some ⟨g, 0, none⟩) N (by8 l) := Rd.of_own h.own
theorem Row.kept (h : Row w g N C l) {r : Option Nat} (hg : w.grownBy w' r) (hr : some g ≠ r) : Row w' g N C l := ⟨h.own.kept hg (.inr (by simpa [Value.ownBlock] using hr))⟩
theorem Row.below {B : Nat} (h : Row w g N C l) (hb : Below B w w') (hg : g < B) : Row w' g N C l := by
  refine ⟨h.own.1, ?_⟩
  rcases h.own.2 with ⟨hv, _⟩ | ⟨g', cap, cur, hv, h1, h2, h3⟩
  · cases hv
  · refine .inr ⟨g', cap, cur, hv, h1, ?_, h3⟩
    injection hv with hA
    injection hA with hA
    injection hA with hg'
    subst hg'
    rw [hb.block g hg]
    exact h2
end

theorem grown_trans {a b c : World} {r : Option Nat} (h : a.grownBy b r) (k : b.grownBy c r) : a.grownBy c r :=
  ⟨k.os.trans h.os, k.tape.trans h.tape, k.output.trans h.output, Nat.le_trans h.size k.size, fun j hj hr => (k.block j (Nat.lt_of_lt_of_le hj h.size) hr).trans (h.block j hj hr)⟩

theorem four_at {v k y : Nat} (h : (F.four v)[k]? = some y) : (v : Int) / 2 ^ (8 * k) % 256 = (y : Int) := by
  match k, h with
  | 0, h => simp [F.four] at h; omega
  | 1, h => simp [F.four] at h; omega
  | 2, h => simp [F.four] at h; omega
  | 3, h => simp [F.four] at h; omega
  | _ + 4, h => simp [F.four] at h

def PutRel (w : World) (g N C : Nat) (l : List Nat) (off v : Nat) (i : Value) (wr : World) : Prop :=
  ∃ k : Nat, i = .int .i64 k ∧ k ≤ 4 ∧ Row wr g N C (ovr l off ((F.four v).take k)) ∧ w.grownBy wr (some g)

def PutDone (w : World) (g N C : Nat) (l : List Nat) (e : Ending) (w' : World) : Prop := e = .returned (.tuple #[]) ∧ Row w' g N C l ∧ w.grownBy w' (some g)

set_option maxRecDepth 100000 in
theorem put_any {w : World} {g N C off m c v : Nat} {l : List Nat} (h : Row w g N C l) (hoff : off + 4 ≤ N) (hm : 4 ≤ m) (hv : v < 4294967296) :
    Calls Try.prog 19 #[.slice (some ⟨g, off, none⟩) m c, .int .u32 v] w (PutDone w g N C (ovr l off (F.four v))) := by
  have H := Lib.hid h
  have HV := Lib.hid hv
  clear h hv
  go_enter Try.func19, Try.ntmps19
  go_wp2
  go_loopw [5] (fun i wr => PutRel w g N C l off v i wr) (fun i _ => 4 - (intOf i).toNat)
  case atStart => exact ⟨0, rfl, by omega, by rw [List.take_zero, ovr_nil]; exact H.out, World.grownBy.refl _ _⟩
  case round =>
    obtain ⟨k, rfl, hk, hrow, hg⟩ := hrel
    have HR := Lib.hid hrow
    have HG := Lib.hid hg
    clear hrow hg
    by_cases hlt : k < 4
    · obtain ⟨y, hy⟩ : ∃ y, (F.four v)[k]? = some y := ⟨_, List.getElem?_eq_getElem (by rw [F.four_len]; exact hlt)⟩
      have hfr := HR.out.free (off + k)
      have hlen := H.out.len
      obtain ⟨z, hz⟩ : ∃ z, (ovr l off ((F.four v).take k))[off + k]? = some z := ⟨_, List.getElem?_eq_getElem (by rw [HR.out.len]; omega)⟩
      have hc := HR.out.cell hz
      have HY := Lib.hid hy
      have f := four_at hy
      have HS := Lib.hid (ovr_step l off k y (F.four v) hy (by rw [F.four_len, hlen]; exact hoff))
      have HT := Lib.hid (HR.out.store (off + k) y)
      clear hy hz hlen
      go_wp2
      go_roundw
      case rel => exact ⟨k + 1, by go_num, by omega, by rw [← HS.out]; exact HT.out.1, grown_trans HG.out HT.out.2⟩
      case measure => simp [intOf]; omega
    · have hk4 : k = 4 := by omega
      have HR4 : Hid (Row wr g N C (ovr l off (F.four v))) := Lib.hid (by have := HR.out; rw [hk4, List.take_of_length_le (by rw [F.four_len]; omega)] at this; exact this)
      clear hk4
      go_wp2
      go_end0
      exact ⟨rfl, HR4.out, HG.out⟩

/-- a number off its four bytes, the lowest first -/
def un4 (l : List Nat) : Nat := l.getD 0 0 + l.getD 1 0 * 256 + l.getD 2 0 * 65536 + l.getD 3 0 * 16777216
def un4To (l : List Nat) : Nat → Nat
  | 0 => 0
  | 1 => l.getD 0 0
  | 2 => l.getD 0 0 + l.getD 1 0 * 256
  | 3 => l.getD 0 0 + l.getD 1 0 * 256 + l.getD 2 0 * 65536
  | _ => un4 l

theorem getD_lt {l : List Nat} (hl : ∀ x ∈ l, x < 256) (i : Nat) : l.getD i 0 < 256 := by
  rw [List.getD_eq_getElem?_getD]
  cases h : l[i]? with
  | none => simp
  | some x => exact hl x (List.mem_of_getElem? h)
theorem un4To_lt {l : List Nat} (hl : ∀ x ∈ l, x < 256) : ∀ k, k ≤ 4 → un4To l k < 2 ^ (8 * k) := by
  have h0 := getD_lt hl 0
  have h1 := getD_lt hl 1
  have h2 := getD_lt hl 2
  have h3 := getD_lt hl 3
  intro k hk
  match k, hk with
  | 0, _ => simp [un4To]
  | 1, _ => simp only [un4To]; omega
  | 2, _ => simp only [un4To]; omega
  | 3, _ => simp only [un4To]; omega
  | 4, _ => simp only [un4To, un4]; omega
theorem un4To_step {l : List Nat} {k x : Nat} (hx : l[k]? = some x) (hk : k < 4) : un4To l (k + 1) = un4To l k + x * 2 ^ (8 * k) := by
  have e : l.getD k 0 = x := by rw [List.getD_eq_getElem?_getD, hx]; rfl
  match k, hk with
  | 0, _ => simp only [un4To, e]; omega
  | 1, _ => simp only [un4To, e]
  | 2, _ => simp only [un4To, e]
  | 3, _ => simp only [un4To, un4, e]
theorem un4_join {l : List Nat} (hl : ∀ x ∈ l, x < 256) {k x : Nat} (hx : l[k]? = some x) (hk : k < 4) : bits .or .u32 ((un4To l k : Nat) : Int) ((x : Int) * 2 ^ (8 * k) % 4294967296) = ((un4To l (k + 1) : Nat) : Int) := by
  have h1 := un4To_lt hl k (by omega)
  have h2 := un4To_lt hl (k + 1) (by omega)
  have h3 := un4To_step hx hk
  have h4 : un4To l (k + 1) < 4294967296 := by
    have : (2 : Nat) ^ (8 * (k + 1)) ≤ 2 ^ 32 := Nat.pow_le_pow_right (by omega) (by omega)
    omega
  have e : (x : Int) * 2 ^ (8 * k) % 4294967296 = ((x * 2 ^ (8 * k) : Nat) : Int) := by
    have e0 : (x : Int) * 2 ^ (8 * k) = ((x * 2 ^ (8 * k) : Nat) : Int) := by simp
    rw [e0]
    omega
  rw [e, u32_or_nat _ _ (by omega) (by omega), Nat.or_comm, nat_join (8 * k) _ _ (by simp) h1, h3, Nat.add_comm]
theorem un4_lt {l : List Nat} (hl : ∀ x ∈ l, x < 256) : un4 l < 4294967296 := un4To_lt hl 4 (by omega)
theorem un4_four (v : Nat) (h : v < 4294967296) (r : List Nat) : un4 (F.four v ++ r) = v := by simp [un4, F.four, List.getD]; omega

set_option maxRecDepth 100000 in
theorem get_any {w : World} {B : Nat} {A : Option Addr} {n c : Nat} {l : List Nat} (h : Rd w B 1 A n (by8 l)) (hl : ∀ x ∈ l, x < 256) (h4 : 4 ≤ n) :
    Calls Try.prog 23 #[.slice A n c] w fun e w' => e = .returned (.int .u32 (un4 l : Nat)) ∧ w = w' := by
  have hlen : l.length = n := by simpa [by8_len] using h.len1
  have HL := Lib.hid hlen
  have HB := Lib.hid hl
  have H := Lib.hid h
  clear hlen hl h
  go_enter Try.func23, Try.ntmps23
  go_wp2
  go_loop [3, 5] (fun a i => ∃ k s : Nat, i = .int .i64 k ∧ k ≤ 4 ∧ a = .int .u32 s ∧ s = un4To l k) (fun _ i => 4 - (intOf i).toNat)
  case atStart => exact ⟨0, 0, rfl, by omega, rfl, rfl⟩
  case round =>
    obtain ⟨k, s, rfl, hk, rfl, hs⟩ := hrel
    have HS := Lib.hid hs
    clear hs
    by_cases hlt : k < 4
    · obtain ⟨b, off, u, rfl, _, hu, hc⟩ := H.out.cell (show k < n by omega)
      obtain ⟨x, hx⟩ : ∃ x : Nat, l[k]? = some x := ⟨l[k]'(by rw [HL.out]; omega), List.getElem?_eq_getElem _⟩
      have hu' : u = .int .u8 (x : Int) := by simpa [by8, hx] using hu.symm
      subst hu'
      have hx256 : x < 256 := HB.out x (List.mem_of_getElem? hx)
      have HX := Lib.hid hx
      have f := un4_join HB.out hx hlt
      rw [← HS.out] at f
      clear hx hu
      go_wp2
      go_round
      case rel => exact ⟨k + 1, _, by go_num, by omega, rfl, rfl⟩
      case measure => simp [intOf]; omega
    · have hk4 : k = 4 := by omega
      have HF : Hid (s = un4 l) := Lib.hid (by rw [HS.out, hk4]; rfl)
      clear hk4
      go_wp2
      go_ret
      exact ⟨ret_int (by rw [HF.out]), rfl⟩
end Go.Proofs.Ytfbiobglckjilaa
