/-
  The contracts of Live, shown and alive.
-/
import Derived.Test.YtdajnkcjdmnnkaaTextF
import Derived.Test.YtdajnkcjdmnnkaaPiecesF
namespace Go.Proofs.Ytdajnkcjdmnnkaa
open Go Go.RowKit
set_option linter.unusedVariables false

/-- is a block live -/
def liveIn (l : List El) (n r : Int) : Bool := l.any fun e => bnd e && decide (e.n = n) && decide (e.r = r)

theorem any_take {p : El → Bool} {l : List El} {k : Nat} {e : El} (h : l[k]? = some e) : (l.take (k + 1)).any p = ((l.take k).any p || p e) := by
  rw [take_one h]; simp

theorem ret_bool {a b : Bool} (h : a = b) : Ending.returned (.bool a) = .returned (.bool b) := by rw [h]

/-- a block of two cells -/
def Box2 (w : World) (B : Nat) (t : TypeId) (a b : Value) : Prop := w.heap[B]? = some (.cells #[a, b] t (0, 0))
theorem Box2.c0 {w : World} {B : Nat} {t : TypeId} {a b : Value} (h : Box2 w B t a b) : w.cell? ⟨B, 0, none⟩ = some a := by simp [World.cell?, show w.heap[B]? = _ from h]
theorem Box2.c1 {w : World} {B : Nat} {t : TypeId} {a b : Value} (h : Box2 w B t a b) : w.cell? ⟨B, 1, none⟩ = some b := by simp [World.cell?, show w.heap[B]? = _ from h]
theorem Box2.lt {w : World} {B : Nat} {t : TypeId} {a b : Value} (h : Box2 w B t a b) : B < w.heap.size := (Array.getElem?_eq_some_iff.1 h).1

set_option maxRecDepth 100000 in
set_option maxHeartbeats 1000000 in
theorem shown_any {w : World} {B : Nat} {A : Option Addr} {n c : Nat} {l : List El} (hR : Rd w B 4 A n (els l)) (hB : B ≤ w.heap.size) (hn : n ≤ 100000) :
    Calls Try.prog 10 #[.slice A n c] w fun e w' => e = .returned (.string (str8 (txtOf l))) ∧ Below w.heap.size w w' := by
  have hlen : l.length = n := by have := hR.1; rw [els_len] at this; omega
  have HL := Lib.hid hlen
  have HR := Lib.hid hR
  clear hlen hR
  go_enter Try.func10, Try.ntmps10
  go_wp2_with fail
  go_loopw [3, 4] (fun s i wr => ∃ (k : Nat), k ≤ n ∧ i = .int .i64 k ∧ s = .string (str8 (txtOf (l.take k))) ∧ Below w.heap.size w wr) (fun _ i _ => n - (intOf i).toNat)
  case atStart => exact ⟨0, Nat.zero_le _, rfl, rfl, Below.refl _ _⟩
  case round =>
    obtain ⟨k, hk, rfl, rfl, hBel⟩ := hrel
    have HBl := Lib.hid hBel
    by_cases hlt : k < n
    · obtain ⟨e, he⟩ : ∃ e, l[k]? = some e := ⟨l[k]'(by rw [HL.out]; exact hlt), List.getElem?_eq_getElem _⟩
      obtain ⟨b, off, rfl, hb, c0, c1, c2, c3⟩ := (HR.out.keep (fun p hp => hBel.cell (p := p) (by omega)) : Rd wr B 4 _ n (els l)).el he
      have HE := Lib.hid he
      clear he hBel
      obtain ⟨en, er, ech, eg⟩ := e
      simp only at c0 c1 c2 c3
      cases eg with
      | true =>
        go_wp2_with fail
        go_roundw
        case rel => exact ⟨k + 1, by omega, by go_num, by rw [txt_miss HE.out (by simp [vis])], HBl.out⟩
        case measure => simp [intOf]; omega
      | false =>
        by_cases hz : ech = 0
        · subst hz
          go_wp2_with fail
          go_roundw
          case rel => exact ⟨k + 1, by omega, by go_num, by rw [txt_miss HE.out (by simp [vis])], HBl.out⟩
          case measure => simp [intOf]; omega
        · have z1 : (ech != 0) = true := by simpa using hz
          have hce : ech % 256 = ((chr ⟨en, er, ech, false⟩ : Nat) : Int) := by simp [chr]; omega
          have hrd := rd_alloc wr #[.int .u8 (ech % 256)] 5 (0, 0) 1 1 rfl
          have hrs : Rd (wr.alloc (.cells #[.int .u8 (ech % 256)] 5)) (wr.heap.size + 1) 1 (some ⟨wr.heap.size, 0, none⟩) 1 (by8 [chr ⟨en, er, ech, false⟩]) := by
            rw [hce] at hrd ⊢; exact hrd
          have ks := run_str hrs 1
          have hsz : ¬ 9223372036854775807 < (str8 (txtOf (l.take k))).size + (str8 [chr ⟨en, er, ech, false⟩]).size := by
            have h1 := txtOf_len (l.take k)
            have h2 : (l.take k).length ≤ k := List.length_take_le _ _
            rw [str8_size, str8_size]; simp; omega
          clear hrd hrs hce
          go_wp2_with fail
          go_roundw
          case rel => exact ⟨k + 1, by omega, by go_num, by rw [txt_hit HE.out (by simp [vis, hz]), str8_append], HBl.out.alloc HBl.out.size _⟩
          case measure => simp [intOf]; omega
    · obtain rfl : k = n := by omega
      have hts : l.take k = l := List.take_of_length_le (by have := HL.out; omega)
      have HT := Lib.hid hts
      clear hBel hts
      go_wp2_with fail
      go_ret
      exact ⟨ret_str (by rw [HT.out]), HBl.out⟩

set_option maxRecDepth 100000 in
set_option maxHeartbeats 1000000 in
theorem live_any {w : World} {B : Nat} {A : Option Addr} {n c : Nat} {l : List El} (hR : Rd w B 4 A n (els l)) (hB : B ≤ w.heap.size) (hn : n ≤ 100000) (bn br : Int) :
    Calls Try.prog 17 #[.slice A n c, .agg #[.int .i64 bn, .int .i64 br]] w fun e w' => e = .returned (.bool (liveIn l bn br)) ∧ Below w.heap.size w w' := by
  have hlen : l.length = n := by have := hR.1; rw [els_len] at this; omega
  have HL := Lib.hid hlen
  have HR := Lib.hid hR
  clear hlen hR
  go_enter Try.func17, Try.ntmps17
  go_wp2_with fail
  go_loopw [9] (fun i wr => ∃ (k : Nat), k ≤ n ∧ i = .int .i64 k ∧ Hid (liveIn (l.take k) bn br = false) ∧ Box2 wr w.heap.size 27 (.int .i64 bn) (.int .i64 br) ∧ Below w.heap.size w wr) (fun i _ => n - (intOf i).toNat)
  case atStart => exact ⟨0, Nat.zero_le _, rfl, rfl, World.alloc_heap_new w _, (Below.refl _ w).alloc (Nat.le_refl _) _⟩
  case round =>
    obtain ⟨k, hk, rfl, hno, hbox, hBel⟩ := hrel
    have HBl := Lib.hid hBel
    have HBx := Lib.hid hbox
    by_cases hlt : k < n
    · obtain ⟨e, he⟩ : ∃ e, l[k]? = some e := ⟨l[k]'(by rw [HL.out]; exact hlt), List.getElem?_eq_getElem _⟩
      obtain ⟨b, off, rfl, hb, c0, c1, c2, c3⟩ := (HR.out.keep (fun p hp => hBel.cell (p := p) (by omega)) : Rd wr B 4 _ n (els l)).el he
      have HE := Lib.hid he
      clear he hBel hbox
      obtain ⟨en, er, ech, eg⟩ := e
      simp only at c0 c1 c2 c3
      go_wp2_with fail
      refine (boundary_any _ _ _ _ _).mono ?_
      rintro e w2 ⟨rfl, hB2⟩
      have X2 : Box4 w2 wr.heap.size 29 (.int .i64 en) (.int .i64 er) (.int .i64 ech) (.bool eg) := (hB2.block _ (by simp)).trans (World.alloc_heap_new wr _)
      have S2 : Box2 w2 w.heap.size 27 (.int .i64 bn) (.int .i64 br) := ((hB2.block _ (by have := HBx.out.lt; simp; omega)).trans (Below.heap_alloc _ _ _ HBx.out.lt)).trans HBx.out
      have HX2 := Lib.hid X2
      have HS2 := Lib.hid S2
      have HB2 : Hid (Below w.heap.size w w2) := Lib.hid ((HBl.out.alloc HBl.out.size _).trans (hB2.mono (by have := HBl.out.size; simp; omega)))
      have hx0 := X2.c0
      have hx1 := X2.c1
      have hs0 := S2.c0
      have hs1 := S2.c1
      clear c0 c1 c2 c3 hB2 X2 S2
      have hany := any_take (p := fun e => bnd e && decide (e.n = bn) && decide (e.r = br)) HE.out
      have HA := Lib.hid hany
      clear hany
      cases hbn : bnd ⟨en, er, ech, eg⟩ with
      | false =>
        have hno2 : liveIn (l.take (k + 1)) bn br = false := by have := HA.out; unfold liveIn at hno ⊢; rw [this, hno.out]; simp [hbn]
        have HN2 := Lib.hid hno2
        clear hno2 hno
        go_wp2_with fail
        go_roundw
        case rel => exact ⟨k + 1, by omega, by go_num, HN2, HS2.out, HB2.out⟩
        case measure => simp [intOf]; omega
      | true =>
        by_cases h1 : en = bn
        · by_cases h2 : er = br
          · subst h1 h2
            have hyes : liveIn l en er = true := by unfold liveIn; rw [List.any_eq_true]; exact ⟨_, List.mem_of_getElem? HE.out, by simp [hbn]⟩
            have HN2 := Lib.hid hyes
            clear hyes hno
            go_wp2_with fail
            go_ret
            exact ⟨ret_bool HN2.out.symm, HB2.out⟩
          · have hno2 : liveIn (l.take (k + 1)) bn br = false := by have := HA.out; unfold liveIn at hno ⊢; rw [this, hno.out]; simp [h2]
            have HN2 := Lib.hid hno2
            have g2 : (er == br) = false := by simpa using h2
            clear hno2 hno
            go_wp2_with fail
            go_roundw
            case rel => exact ⟨k + 1, by omega, by go_num, HN2, HS2.out, HB2.out⟩
            case measure => simp [intOf]; omega
        · have hno2 : liveIn (l.take (k + 1)) bn br = false := by have := HA.out; unfold liveIn at hno ⊢; rw [this, hno.out]; simp [h1]
          have HN2 := Lib.hid hno2
          have g1 : (en == bn) = false := by simpa using h1
          clear hno2 hno
          go_wp2_with fail
          go_roundw
          case rel => exact ⟨k + 1, by omega, by go_num, HN2, HS2.out, HB2.out⟩
          case measure => simp [intOf]; omega
    · obtain rfl : k = n := by omega
      have hts : l.take k = l := List.take_of_length_le (by have := HL.out; omega)
      have HT : Hid (liveIn l bn br = false) := Lib.hid (hts ▸ hno.out)
      clear hBel hts hno
      go_wp2_with fail
      go_ret
      exact ⟨ret_bool HT.out.symm, HBl.out⟩

theorem flat4 {α : Type} (f : α → List Value) (hf : ∀ a, (f a).length = 4) : ∀ (xs : List α) (k : Nat) (e : α) (j : Nat), xs[k]? = some e → j < 4 → (xs.flatMap f)[k * 4 + j]? = (f e)[j]? := by
  intro xs
  induction xs with
  | nil => intro k e j h; simp at h
  | cons x xs ih =>
    intro k e j h hj
    rw [List.flatMap_cons]
    cases k with
    | zero =>
      simp at h; subst h
      rw [Nat.zero_mul, Nat.zero_add, List.getElem?_append_left (by rw [hf]; exact hj)]
    | succ k =>
      rw [List.getElem?_append_right (by rw [hf]; omega)]
      have : (k + 1) * 4 + j - (f x).length = k * 4 + j := by rw [hf]; omega
      rw [this]
      exact ih k e j (by simpa using h) hj

/-- the four cells of a piece -/
theorem Rd.sp {w : World} {B n : Nat} {A : Option Addr} {xs : List Sp} (h : Rd w B 4 A n (sps xs)) {k : Nat} {e : Sp} (he : xs[k]? = some e) :
    ∃ b off, A = some ⟨b, off, none⟩ ∧ b < B ∧ w.cell? ⟨b, off + k * 4, none⟩ = some (.int .i64 e.n) ∧ w.cell? ⟨b, off + k * 4 + 1, none⟩ = some (.int .i64 e.r) ∧
      w.cell? ⟨b, off + k * 4 + 2, none⟩ = some (.int .i64 e.f) ∧ w.cell? ⟨b, off + k * 4 + 3, none⟩ = some (.int .i64 e.t) := by
  have hk : k < xs.length := by
    rcases Nat.lt_or_ge k xs.length with h1 | h1
    · exact h1
    · rw [List.getElem?_eq_none h1] at he; cases he
  have hn : xs.length * 4 = n * 4 := by rw [← sps_len]; exact h.1
  obtain ⟨b, off, hA, hb, hc⟩ := h.at_ (by omega)
  have hf := flat4 Sp.cells (fun _ => rfl) xs k e
  refine ⟨b, off, hA, hb, ?_, ?_, ?_, ?_⟩
  · exact hc (k * 4) _ (hf 0 he (by omega))
  · rw [Nat.add_assoc]; exact hc (k * 4 + 1) _ (hf 1 he (by omega))
  · rw [Nat.add_assoc]; exact hc (k * 4 + 2) _ (hf 2 he (by omega))
  · rw [Nat.add_assoc]; exact hc (k * 4 + 3) _ (hf 3 he (by omega))

def alEls : List El := [⟨0, 0, 97, false⟩, ⟨2, 0, 0, false⟩, ⟨0, 0, 98, false⟩, ⟨0, 0, 99, true⟩]

set_option maxRecDepth 100000 in
set_option maxHeartbeats 1000000 in
theorem alive_any (w : World) : Calls Try.prog 7 #[] w fun e w' => e = .returned (.bool true) ∧ Below w.heap.size w w' := by
  have hrd := rd_alloc w #[.int .i64 0, .int .i64 0, .int .i64 97, .bool false, .int .i64 2, .int .i64 0, .int .i64 0, .bool false, .int .i64 0, .int .i64 0, .int .i64 98, .bool false, .int .i64 0, .int .i64 0, .int .i64 99, .bool true] 29 (0, 0) 4 4 rfl
  have HR := Lib.hid (show Rd _ (w.heap.size + 1) 4 (some ⟨w.heap.size, 0, none⟩) 4 (els alEls) from hrd)
  clear hrd
  go_enter Try.func7, Try.ntmps7
  go_wp2_with fail
  refine (pieces_any _ 4 4 alEls (by omega) _ (HR.out.more (by simp))).mono ?_
  have hp : pieces alEls = [⟨0, 0, 0, 1⟩, ⟨2, 0, 2, 4⟩] := rfl
  rw [hp]
  rintro e w2 ⟨⟨A2, c2, rfl, hown⟩, hB2⟩
  obtain ⟨b, off, rfl, hb, c0, c1, c2, c3⟩ := (Rd.of_own hown).sp (k := 1) (e := ⟨2, 0, 2, 4⟩) rfl
  have HR2 := Lib.hid (HR.out.below (hB2.mono (by simp)))
  have hs2 : w.heap.size + 1 ≤ w2.heap.size := by simpa using hB2.size
  have HB2 := Lib.hid (((Below.refl _ w).alloc (Nat.le_refl _) _).trans (hB2.mono (by simp)))
  clear hown hB2 hp HR
  go_wp2_with fail
  refine (text_any HR2.out hs2 (by omega) (by omega) (by unfold maxLen; omega) _ _ _ _ (by omega) (by omega)).mono ?_
  have ht : str8 (text alEls 2 4) = ⟨#[98]⟩ := by decide
  rw [ht]
  rintro e w3 ⟨rfl, hB3⟩
  have HR3 := Lib.hid (HR2.out.below (hB3.mono hs2))
  have hs3 : w.heap.size + 1 ≤ w3.heap.size := Nat.le_trans hs2 hB3.size
  have HB3 := Lib.hid (HB2.out.trans (hB3.mono (by omega)))
  clear c0 c1 c2 c3 ht hB3
  go_wp2_with fail
  refine (live_any HR3.out hs3 (by omega) _ _).mono ?_
  have hl : liveIn alEls 2 0 = true := by decide
  rw [hl]
  rintro e w4 ⟨rfl, hB4⟩
  go_wp2_with fail
  go_ret
  exact ⟨rfl, HB3.out.trans (hB4.mono (by omega))⟩
end Go.Proofs.Ytdajnkcjdmnnkaa
