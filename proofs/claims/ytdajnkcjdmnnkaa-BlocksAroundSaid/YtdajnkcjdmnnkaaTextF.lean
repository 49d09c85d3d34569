/-
  The contract of Text: the bytes of the characters between two places.
-/
import Derived.Test.YtdajnkcjdmnnkaaStrs
import Derived.Test.YtdajnkcjdmnnkaaIter
import Derived.LoopTactic
namespace Go.Proofs.Ytdajnkcjdmnnkaa
open Go Go.RowKit
set_option linter.unusedVariables false

def vis (e : El) : Bool := !decide (e.ch = 0) && !e.gone
def chr (e : El) : Nat := (e.ch % 256).toNat
def txtOf (l : List El) : List Nat := (l.filter vis).map chr
def text (l : List El) (f t : Int) : List Nat := if f < 0 ∨ t < f ∨ (l.length : Int) < t then [] else txtOf ((l.drop f.toNat).take (t - f).toNat)

theorem chr_lt (e : El) : chr e < 256 := by unfold chr; omega
theorem txtOf_lt (l : List El) : ∀ x ∈ txtOf l, x < 256 := by
  intro x hx
  simp only [txtOf, List.mem_map] at hx
  obtain ⟨e, _, rfl⟩ := hx
  exact chr_lt e
theorem txtOf_append (a b : List El) : txtOf (a ++ b) = txtOf a ++ txtOf b := by simp [txtOf]
theorem txtOf_len (l : List El) : (txtOf l).length ≤ l.length := by simp only [txtOf, List.length_map]; exact List.length_filter_le _ _
theorem take_one {l : List El} {k : Nat} {e : El} (h : l[k]? = some e) : l.take (k + 1) = l.take k ++ [e] := by
  obtain ⟨h1, rfl⟩ := List.getElem?_eq_some_iff.1 h
  exact List.take_succ_eq_append_getElem h1
theorem txt_hit {l : List El} {k : Nat} {e : El} (h : l[k]? = some e) (hv : vis e = true) : txtOf (l.take (k + 1)) = txtOf (l.take k) ++ [chr e] := by
  rw [take_one h, txtOf_append]; simp [txtOf, hv]
theorem txt_miss {l : List El} {k : Nat} {e : El} (h : l[k]? = some e) (hv : vis e = false) : txtOf (l.take (k + 1)) = txtOf (l.take k) := by
  rw [take_one h, txtOf_append]; simp [txtOf, hv]

theorem els_take (l : List El) (k : Nat) : (els l).take (k * 4) = els (l.take k) := by
  induction l generalizing k with
  | nil => simp [els]
  | cons e l ih =>
    cases k with
    | zero => simp [els]
    | succ k =>
      have e1 : els (e :: l) = El.cells e ++ els l := rfl
      have e2 : els ((e :: l).take (k + 1)) = El.cells e ++ els (l.take k) := rfl
      rw [e1, e2, ← ih, List.take_append]
      have : (k + 1) * 4 - (El.cells e).length = k * 4 := by simp [El.cells]; omega
      rw [this, List.take_of_length_le (by simp [El.cells]; omega)]
theorem els_drop (l : List El) (k : Nat) : (els l).drop (k * 4) = els (l.drop k) := by
  induction l generalizing k with
  | nil => simp [els]
  | cons e l ih =>
    cases k with
    | zero => simp
    | succ k =>
      have e1 : els (e :: l) = El.cells e ++ els l := rfl
      rw [e1, List.drop_succ_cons, ← ih, List.drop_append]
      have : (k + 1) * 4 - (El.cells e).length = k * 4 := by simp [El.cells]; omega
      rw [this, List.drop_of_length_le (by simp [El.cells]; omega), List.nil_append]

theorem rd_sub {w : World} {B n c : Nat} {A : Option Addr} {l : List El} (h : Rd w B 4 A n (els l)) (hc : n ≤ c) {f t : Nat} (h1 : f ≤ t) (h2 : t ≤ n) :
    Rd w B 4 (if c = f then A else A.map (·.add (f * 4))) (t - f) (els ((l.drop f).take (t - f))) := by
  have := (h.dropN (k := f) (c := c) (by omega) hc).take (k := t - f) (by omega)
  rwa [els_drop, els_take] at this

set_option maxRecDepth 100000 in
set_option maxHeartbeats 1000000 in
theorem text_any {w : World} {B : Nat} {A : Option Addr} {n c : Nat} {l : List El} (hR : Rd w B 4 A n (els l)) (hB : B ≤ w.heap.size) (hn : n ≤ 100000) (hc : n ≤ c) (hcm : c ≤ maxLen) (sn sr sf st : Int) (hf : -9223372036854775808 ≤ sf ∧ sf < 9223372036854775808) (ht : -9223372036854775808 ≤ st ∧ st < 9223372036854775808) :
    Calls Try.prog 9 #[.slice A n c, .agg #[.int .i64 sn, .int .i64 sr, .int .i64 sf, .int .i64 st]] w fun e w' => e = .returned (.string (str8 (text l sf st))) ∧ Below w.heap.size w w' := by
  have hlen : l.length = n := by have := hR.1; rw [els_len] at this; omega
  have HL := Lib.hid hlen
  have HR := Lib.hid hR
  clear hlen hR
  unfold maxLen at hcm
  by_cases h1 : sf < 0
  · go_enter Try.func9, Try.ntmps9
    go_wp2_with fail
    go_ret
    exact ⟨by simp [text, h1, str8_nil], (Below.refl _ w).alloc (Nat.le_refl _) _⟩
  by_cases h2 : st < sf
  · go_enter Try.func9, Try.ntmps9
    go_wp2_with fail
    go_ret
    exact ⟨by simp [text, h2, str8_nil], (Below.refl _ w).alloc (Nat.le_refl _) _⟩
  by_cases h3 : (n : Int) < st
  · go_enter Try.func9, Try.ntmps9
    go_wp2_with fail
    go_ret
    exact ⟨by have := HL.out; simp [text, this, h3, str8_nil], (Below.refl _ w).alloc (Nat.le_refl _) _⟩
  obtain ⟨f, rfl⟩ := Int.eq_ofNat_of_zero_le (show 0 ≤ sf by omega)
  obtain ⟨t, rfl⟩ := Int.eq_ofNat_of_zero_le (show 0 ≤ st by omega)
  have hft : f ≤ t := by omega
  have htn : t ≤ n := by omega
  clear hf ht h1 h2 h3
  have hsub := rd_sub HR.out hc hft htn
  obtain ⟨A', hA'⟩ : ∃ A', (if c = f then A else A.map (·.add (f * 4))) = A' := ⟨_, rfl⟩
  rw [hA'] at hsub
  obtain ⟨L, hL⟩ : ∃ L, (l.drop f).take (t - f) = L := ⟨_, rfl⟩
  rw [hL] at hsub
  obtain ⟨N, hN⟩ : ∃ N, t - f = N := ⟨_, rfl⟩
  rw [hN] at hsub
  have hfin : text l f t = txtOf L := by
    have := HL.out
    unfold text
    rw [if_neg (by omega), ← hL]
    congr 2
    omega
  have HF := Lib.hid hfin
  have HS := Lib.hid hsub
  have hNn : N ≤ n := by omega
  have hLl : L.length = N := by have := hsub.1; rw [els_len] at this; omega
  have HLl := Lib.hid hLl
  have i1 : (f : Int) ≤ (t : Int) := by omega
  have g1 : decide ((f : Int) < 0) = false := by simp
  have g2 : decide (t < f) = false := by simp; omega
  have g3 : decide (n < t) = false := by simp; omega
  clear hsub hfin hL hLl
  go_enter Try.func9, Try.ntmps9
  go_wp2_with fail
  clear hA' hN
  go_loopw [5, 32] (fun v i wr => ∃ (k m c' : Nat) (A1 : Option Addr), k ≤ N ∧ i = .int .i64 k ∧ v = .slice A1 m c' ∧ m ≤ k ∧ wr.ownsRow w.heap.size 5 1 (.slice A1 m c') m (by8 (txtOf (L.take k))) ∧ Below w.heap.size w wr) (fun _ i _ => N - (intOf i).toNat)
  case atStart => exact ⟨0, 0, 0, none, Nat.zero_le _, rfl, rfl, Nat.le_refl _, World.ownsRow_nil _ _ _ _, (Below.refl _ w).alloc (Nat.le_refl _) _⟩
  case round =>
    obtain ⟨k, m, c', A1, hk, rfl, rfl, hm, hown, hBel⟩ := hrel
    have HO := Lib.hid hown
    have HBl := Lib.hid hBel
    by_cases hlt : k < N
    · obtain ⟨e, he⟩ : ∃ e, L[k]? = some e := ⟨L[k]'(by rw [HLl.out]; exact hlt), List.getElem?_eq_getElem _⟩
      obtain ⟨b, off, rfl, hb, c0, c1, c2, c3⟩ := (HS.out.keep (fun p hp => hBel.cell (p := p) (by omega)) : Rd wr B 4 _ N (els L)).el he
      have HE := Lib.hid he
      clear he hown hBel
      obtain ⟨en, er, ech, eg⟩ := e
      simp only at c0 c1 c2 c3
      have hbel2 : ∀ o, Below w.heap.size w (wr.alloc o) := fun o => HBl.out.alloc HBl.out.size o
      have HB2 := Lib.hid hbel2
      clear hbel2
      by_cases hz : ech = 0
      · subst hz
        go_wp2_with fail
        go_roundw
        case rel => exact ⟨k + 1, m, c', A1, by omega, by go_num, rfl, by omega, by rw [txt_miss HE.out (by simp [vis])]; exact HO.out.alloc _, HB2.out _⟩
        case measure => simp [intOf]; omega
      · have z1 : (ech != 0) = true := by simpa using hz
        cases eg with
        | true =>
          go_wp2_with fail
          go_roundw
          case rel => exact ⟨k + 1, m, c', A1, by omega, by go_num, rfl, by omega, by rw [txt_miss HE.out (by simp [vis])]; exact HO.out.alloc _, HB2.out _⟩
          case measure => simp [intOf]; omega
        | false =>
          have hce : ech % 256 = ((chr ⟨en, er, ech, false⟩ : Nat) : Int) := by simp [chr]; omega
          have HCE := Lib.hid hce
          clear hce
          go_wp2_with (at_builtin; refine wpList_app1x _ rfl (.tmp 44) (.tmp 48) 45 rfl w w.heap.size 5 (.int .u8 0) 1 Try.underlying45 info5 rfl (wr.alloc (.cells #[.int .i64 en, .int .i64 er, .int .i64 ech, .bool false] 29)) _ rfl rfl _ _ _ rfl (HO.out.alloc _) (wr.heap.size + 1) (by simp) rfl (by unfold maxLen; omega) (by omega) (HB2.out _) (Nat.le_refl _) ?_)
          intro A2 c2 w2 hown2 hg2 hB2
          have H2 := Lib.hid hown2
          have HBb := Lib.hid hB2
          clear hown2 hg2 hB2
          go_wp2_with fail
          go_roundw
          case rel => exact ⟨k + 1, m + 1, c2, A2, by omega, by go_num, rfl, by omega, by rw [txt_hit HE.out (by simp [vis, hz]), by8_append]; have := H2.out; rw [HCE.out] at this; exact this, HBb.out⟩
          case measure => simp [intOf]; omega
    · obtain rfl : k = N := by omega
      have hts : L.take k = L := List.take_of_length_le (by have := HLl.out; omega)
      rw [hts] at hown
      have ks := run_str (Rd.of_own hown) c'
      have HF2 := Lib.hid (show str8 (text l f t) = str8 (txtOf L) by rw [HF.out])
      clear hown hBel hts
      go_wp2_with fail
      go_ret
      exact ⟨ret_str HF2.out.symm, HBl.out⟩
end Go.Proofs.Ytdajnkcjdmnnkaa
