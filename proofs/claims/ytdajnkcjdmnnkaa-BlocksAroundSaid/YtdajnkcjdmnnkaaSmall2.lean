/-
  The contracts of the document's answers: begins, Text, Live, Same (elements, pieces).
-/
import Derived.Test.YtdajnkcjdmnnkaaSmall
import Derived.Test.YtdajnkcjdmnnkaaSplitKit
namespace Go.Proofs.Ytdajnkcjdmnnkaa
open Go Go.RowKit
set_option linter.unusedVariables false

set_option maxHeartbeats 1000000 in
theorem begins_any (w : World) (n r ch : Int) (g : Bool) : Calls Try.prog 20 #[.agg #[.int .i64 n, .int .i64 r, .int .i64 ch, .bool g]] w fun e w' => e = .returned (.bool (bnd ⟨n, r, ch, g⟩)) ∧ Below w.heap.size w w' := by
  by_cases hc : ch = 0
  · subst hc
    go_enter Try.func20, Try.ntmps20
    go_wp2_with fail
    go_ret
    exact ⟨by simp [bnd], (Below.refl _ w).alloc (Nat.le_refl _) _⟩
  · have g1 : (ch == 0) = false := by simpa using hc
    go_enter Try.func20, Try.ntmps20
    go_wp2_with fail
    go_ret
    exact ⟨by simp [bnd, hc], (Below.refl _ w).alloc (Nat.le_refl _) _⟩

set_option maxRecDepth 100000 in
set_option maxHeartbeats 1000000 in
theorem rtext_any {w : World} {B : Nat} {A : Option Addr} {n c : Nat} {l : List El} (hR : Rd w B 4 A n (els l)) (hB : B ≤ w.heap.size) (hn : n ≤ 100000) (sn sr sf st : Int) (hf : -9223372036854775808 ≤ sf ∧ sf < 9223372036854775808) (ht : -9223372036854775808 ≤ st ∧ st < 9223372036854775808) :
    Calls Try.prog 13 #[.slice A n c, .agg #[.int .i64 sn, .int .i64 sr, .int .i64 sf, .int .i64 st]] w fun e w' => e = .returned (.string (str8 (text l sf st))) ∧ Below w.heap.size w w' := by
  have hlen : l.length = n := by have := hR.1; rw [els_len] at this; omega
  have HL := Lib.hid hlen
  have HR := Lib.hid hR
  clear hlen hR
  by_cases h1 : sf < 0
  · go_enter Try.func13, Try.ntmps13
    go_wp2_with fail
    go_ret
    exact ⟨by simp [text, h1, str8_nil], (Below.refl _ w).alloc (Nat.le_refl _) _⟩
  by_cases h2 : st < sf
  · go_enter Try.func13, Try.ntmps13
    go_wp2_with fail
    go_ret
    exact ⟨by simp [text, h2, str8_nil], (Below.refl _ w).alloc (Nat.le_refl _) _⟩
  by_cases h3 : (n : Int) < st
  · go_enter Try.func13, Try.ntmps13
    go_wp2_with fail
    go_ret
    exact ⟨by have := HL.out; simp [text, this, h3, str8_nil], (Below.refl _ w).alloc (Nat.le_refl _) _⟩
  obtain ⟨f, rfl⟩ := Int.eq_ofNat_of_zero_le (show 0 ≤ sf by omega)
  obtain ⟨t, rfl⟩ := Int.eq_ofNat_of_zero_le (show 0 ≤ st by omega)
  have hft : f ≤ t := by omega
  have htn : t ≤ n := by omega
  clear hf ht h1 h2 h3
  have g1 : decide ((f : Int) < 0) = false := by simp
  have g2 : decide (t < f) = false := by simp; omega
  have g3 : decide (n < t) = false := by simp; omega
  go_enter Try.func13, Try.ntmps13
  go_wp2_with fail
  go_loopw [5, 6] (fun s i wr => ∃ (k : Nat), f ≤ k ∧ k ≤ t ∧ i = .int .i64 k ∧ s = .string (str8 (text l f k)) ∧ Box4 wr w.heap.size 31 (.int .i64 sn) (.int .i64 sr) (.int .i64 (f : Int)) (.int .i64 (t : Int)) ∧ Below w.heap.size w wr) (fun _ i _ => t - (intOf i).toNat)
  case atStart => exact ⟨f, Nat.le_refl _, hft, rfl, by rw [text_eq (Nat.le_refl _) (by have := HL.out; omega), Nat.sub_self, List.take_zero]; rfl, World.alloc_heap_new w _, (Below.refl _ w).alloc (Nat.le_refl _) _⟩
  case round =>
    obtain ⟨k, hfk, hk, rfl, rfl, hbox, hBel⟩ := hrel
    have HBl := Lib.hid hBel
    have HBx := Lib.hid hbox
    have bx := hbox.c3
    by_cases hlt : k < t
    · have hkn : k < n := by omega
      obtain ⟨e, he⟩ : ∃ e, l[k]? = some e := ⟨l[k]'(by rw [HL.out]; omega), List.getElem?_eq_getElem _⟩
      obtain ⟨b, off, rfl, hb, c0, c1, c2, c3⟩ := (HR.out.keep (fun p hp => hBel.cell (p := p) (by omega)) : Rd wr B 4 _ n (els l)).el he
      have hstep := text_join (l := l) (f := f) (a := k) (t := k + 1) hfk (by omega) (by have := HL.out; omega)
      have hone : text l k ((k + 1 : Nat) : Int) = txtOf [e] := by
        rw [text_eq (by omega) (by have := HL.out; omega)]
        congr 1
        obtain ⟨hkl, rfl⟩ := List.getElem?_eq_some_iff.1 he
        rw [show k + 1 - k = 1 by omega, List.drop_eq_getElem_cons hkl]; rfl
      rw [hone] at hstep
      have ek : ((k + 1 : Nat) : Int) = (k : Int) + 1 := by omega
      rw [ek] at hstep
      have HST := Lib.hid hstep
      clear he hBel hbox hstep hone ek
      obtain ⟨en, er, ech, eg⟩ := e
      simp only at c0 c1 c2 c3
      cases eg with
      | true =>
        go_wp2_with fail
        go_roundw
        case rel => exact ⟨k + 1, by omega, by omega, by go_num, congrArg (fun x => Value.string (str8 x)) (by rw [show ((k + 1 : Nat) : Int) = (k : Int) + 1 by omega, HST.out]; simp [txtOf, vis]), HBx.out, HBl.out⟩
        case measure => simp [intOf]; omega
      | false =>
        by_cases hz : ech = 0
        · subst hz
          go_wp2_with fail
          go_roundw
          case rel => exact ⟨k + 1, by omega, by omega, by go_num, congrArg (fun x => Value.string (str8 x)) (by rw [show ((k + 1 : Nat) : Int) = (k : Int) + 1 by omega, HST.out]; simp [txtOf, vis]), HBx.out, HBl.out⟩
          case measure => simp [intOf]; omega
        · have z1 : (ech != 0) = true := by simpa using hz
          have hce : ech % 256 = ((chr ⟨en, er, ech, false⟩ : Nat) : Int) := by simp [chr]; omega
          have hrd := rd_alloc wr #[.int .u8 (ech % 256)] 5 (0, 0) 1 1 rfl
          have hrs : Rd (wr.alloc (.cells #[.int .u8 (ech % 256)] 5)) (wr.heap.size + 1) 1 (some ⟨wr.heap.size, 0, none⟩) 1 (by8 [chr ⟨en, er, ech, false⟩]) := by
            rw [hce] at hrd ⊢; exact hrd
          have ks := run_str hrs 1
          have hsz : ¬ 9223372036854775807 < (str8 (text l f k)).size + (str8 [chr ⟨en, er, ech, false⟩]).size := by
            have h1 := text_len l f k
            have h2 := HL.out
            rw [str8_size, str8_size]; simp; omega
          clear hrd hrs hce
          go_wp2_with fail
          go_roundw
          case rel => exact ⟨k + 1, by omega, by omega, by go_num, congrArg Value.string (by rw [show ((k + 1 : Nat) : Int) = (k : Int) + 1 by omega, HST.out, str8_append]; simp [txtOf, vis, hz]), (Below.heap_alloc _ _ _ HBx.out.lt).trans HBx.out, HBl.out.alloc HBl.out.size _⟩
          case measure => simp [intOf]; omega
    · obtain rfl : k = t := by omega
      clear hBel hbox
      go_wp2_with fail
      go_ret
      exact ⟨rfl, HBl.out⟩

set_option maxRecDepth 100000 in
set_option maxHeartbeats 1000000 in
theorem rlive_any {w : World} {B : Nat} {A : Option Addr} {n c : Nat} {l : List El} (hR : Rd w B 4 A n (els l)) (hB : B ≤ w.heap.size) (hn : n ≤ 100000) (bn br : Int) :
    Calls Try.prog 18 #[.slice A n c, .agg #[.int .i64 bn, .int .i64 br]] w fun e w' => e = .returned (.bool (liveIn l bn br)) ∧ Below w.heap.size w w' := by
  have hlen : l.length = n := by have := hR.1; rw [els_len] at this; omega
  have HL := Lib.hid hlen
  have HR := Lib.hid hR
  clear hlen hR
  go_enter Try.func18, Try.ntmps18
  go_wp2_with fail
  go_loopw [5] (fun i wr => ∃ (k : Nat), k ≤ n ∧ i = .int .i64 k ∧ Hid (liveIn (l.take k) bn br = false) ∧ Box2 wr w.heap.size 27 (.int .i64 bn) (.int .i64 br) ∧ Below w.heap.size w wr) (fun i _ => n - (intOf i).toNat)
  case atStart => exact ⟨0, Nat.zero_le _, rfl, rfl, World.alloc_heap_new w _, (Below.refl _ w).alloc (Nat.le_refl _) _⟩
  case round =>
    obtain ⟨k, hk, rfl, hno, hbox, hBel⟩ := hrel
    have HBl := Lib.hid hBel
    have HBx := Lib.hid hbox
    by_cases hlt : k < n
    · obtain ⟨e, he⟩ : ∃ e, l[k]? = some e := ⟨l[k]'(by rw [HL.out]; exact hlt), List.getElem?_eq_getElem _⟩
      obtain ⟨b, off, rfl, hb, c0, c1, c2, c3⟩ := (HR.out.keep (fun p hp => hBel.cell (p := p) (by omega)) : Rd wr B 4 _ n (els l)).el he
      have HE := Lib.hid he
      clear he hBel hbox
      obtain ⟨en, er, ech, eg⟩ := e
      simp only at c0 c1 c2 c3
      go_wp2_with fail
      refine (begins_any _ _ _ _ _).mono ?_
      rintro e w2 ⟨rfl, hB2⟩
      have S2 : Box2 w2 w.heap.size 27 (.int .i64 bn) (.int .i64 br) := (hB2.block _ HBx.out.lt).trans HBx.out
      have HS2 := Lib.hid S2
      have HB2 : Hid (Below w.heap.size w w2) := Lib.hid (HBl.out.trans (hB2.mono HBl.out.size))
      have hbw : b < wr.heap.size := by have := HBl.out.size; omega
      obtain ⟨hc2, hf2⟩ := bcell hB2
      have k0 := (hc2 b (off + k * 4) hbw).trans c0
      have k1 := (hc2 b (off + k * 4 + 1) hbw).trans c1
      have hs0 := S2.c0
      have hs1 := S2.c1
      clear c0 c1 c2 c3 hc2 hf2 hB2 S2
      have hany := any_take (p := fun e => bnd e && decide (e.n = bn) && decide (e.r = br)) HE.out
      have HA := Lib.hid hany
      have ki : (k : Int) < (n : Int) := by omega
      clear hany
      cases hbn : bnd ⟨en, er, ech, eg⟩ with
      | false =>
        have hno2 : liveIn (l.take (k + 1)) bn br = false := by have := HA.out; unfold liveIn at hno ⊢; rw [this, hno.out]; simp [hbn]
        have HN2 := Lib.hid hno2
        clear hno2 hno
        go_wp2_with fail
        go_quiet (fail)
        go_wp2_with fail
        go_roundw
        case rel => exact ⟨k + 1, by omega, by go_num, HN2, HS2.out, below_draws HB2.out _⟩
        case measure => simp [intOf]; omega
      | true =>
        by_cases h1 : en = bn
        · by_cases h2 : er = br
          · subst h1 h2
            have hyes : liveIn l en er = true := by unfold liveIn; rw [List.any_eq_true]; exact ⟨_, List.mem_of_getElem? HE.out, by simp [hbn]⟩
            have HN2 := Lib.hid hyes
            clear hyes hno
            go_wp2_with fail
            go_quiet (fail)
            go_wp2_with fail
            go_ret
            exact ⟨ret_bool HN2.out.symm, below_draws HB2.out _⟩
          · have hno2 : liveIn (l.take (k + 1)) bn br = false := by have := HA.out; unfold liveIn at hno ⊢; rw [this, hno.out]; simp [h2]
            have HN2 := Lib.hid hno2
            have g2 : (er == br) = false := by simpa using h2
            clear hno2 hno
            go_wp2_with fail
            go_quiet (fail)
            go_wp2_with fail
            go_roundw
            case rel => exact ⟨k + 1, by omega, by go_num, HN2, HS2.out, below_draws HB2.out _⟩
            case measure => simp [intOf]; omega
        · have hno2 : liveIn (l.take (k + 1)) bn br = false := by have := HA.out; unfold liveIn at hno ⊢; rw [this, hno.out]; simp [h1]
          have HN2 := Lib.hid hno2
          have g1 : (en == bn) = false := by simpa using h1
          clear hno2 hno
          go_wp2_with fail
          go_quiet (fail)
          go_wp2_with fail
          go_roundw
          case rel => exact ⟨k + 1, by omega, by go_num, HN2, HS2.out, below_draws HB2.out _⟩
          case measure => simp [intOf]; omega
    · obtain rfl : k = n := by omega
      have hts : l.take k = l := List.take_of_length_le (by have := HL.out; omega)
      have HT : Hid (liveIn l bn br = false) := Lib.hid (hts ▸ hno.out)
      clear hBel hts hno
      go_wp2_with fail
      go_ret
      exact ⟨ret_bool HT.out.symm, HBl.out⟩

/-! two slices that read alike are one -/
set_option maxRecDepth 100000 in
set_option maxHeartbeats 1000000 in
theorem same16_yes {w : World} {B B' : Nat} {A A' : Option Addr} {n c c' : Nat} {l : List Sp} (hR : Rd w B 4 A n (sps l)) (hR' : Rd w B' 4 A' n (sps l)) (hB : B ≤ w.heap.size) (hB' : B' ≤ w.heap.size) (hn : n ≤ 100000) :
    Calls Try.prog 11 #[.slice A n c, .slice A' n c'] w fun e w' => e = .returned (.bool true) ∧ Below w.heap.size w w' := by
  have hlen : l.length = n := by have := hR.1; rw [sps_len] at this; omega
  have HL := Lib.hid hlen
  have HR := Lib.hid hR
  have HR' := Lib.hid hR'
  clear hlen hR hR'
  go_enter Try.func11, Try.ntmps11
  go_wp2_with fail
  go_loopw [5] (fun i wr => ∃ (k : Nat), k ≤ n ∧ i = .int .i64 k ∧ Below w.heap.size w wr) (fun i _ => n - (intOf i).toNat)
  case atStart => exact ⟨0, Nat.zero_le _, rfl, Below.refl _ _⟩
  case round =>
    obtain ⟨k, hk, rfl, hBel⟩ := hrel
    have HBl := Lib.hid hBel
    by_cases hlt : k < n
    · obtain ⟨e, he⟩ : ∃ e, l[k]? = some e := ⟨l[k]'(by rw [HL.out]; exact hlt), List.getElem?_eq_getElem _⟩
      obtain ⟨b, off, rfl, hb, c0, c1, c2, c3⟩ := (HR.out.keep (fun p hp => hBel.cell (p := p) (by omega)) : Rd wr B 4 _ n (sps l)).sp he
      obtain ⟨b', off', rfl, hb', d0, d1, d2, d3⟩ := (HR'.out.keep (fun p hp => hBel.cell (p := p) (by omega)) : Rd wr B' 4 _ n (sps l)).sp he
      have ki : (k : Int) < (n : Int) := by omega
      clear he hBel
      obtain ⟨en, er, ef, et⟩ := e
      simp only at c0 c1 c2 c3 d0 d1 d2 d3
      go_wp2_with fail
      go_quiet (fail)
      go_wp2_with fail
      go_roundw
      case rel => exact ⟨k + 1, by omega, by go_num, below_draws HBl.out _⟩
      case measure => simp [intOf]; omega
    · obtain rfl : k = n := by omega
      clear hBel
      go_wp2_with fail
      go_ret
      exact ⟨rfl, HBl.out⟩

set_option maxRecDepth 100000 in
set_option maxHeartbeats 1000000 in
theorem same12_yes {w : World} {B B' : Nat} {A A' : Option Addr} {n c c' : Nat} {l : List El} (hR : Rd w B 4 A n (els l)) (hR' : Rd w B' 4 A' n (els l)) (hB : B ≤ w.heap.size) (hB' : B' ≤ w.heap.size) (hn : n ≤ 100000) :
    Calls Try.prog 16 #[.slice A n c, .slice A' n c'] w fun e w' => e = .returned (.bool true) ∧ Below w.heap.size w w' := by
  have hlen : l.length = n := by have := hR.1; rw [els_len] at this; omega
  have HL := Lib.hid hlen
  have HR := Lib.hid hR
  have HR' := Lib.hid hR'
  clear hlen hR hR'
  go_enter Try.func16, Try.ntmps16
  go_wp2_with fail
  go_loopw [5] (fun i wr => ∃ (k : Nat), k ≤ n ∧ i = .int .i64 k ∧ Below w.heap.size w wr) (fun i _ => n - (intOf i).toNat)
  case atStart => exact ⟨0, Nat.zero_le _, rfl, Below.refl _ _⟩
  case round =>
    obtain ⟨k, hk, rfl, hBel⟩ := hrel
    have HBl := Lib.hid hBel
    by_cases hlt : k < n
    · obtain ⟨e, he⟩ : ∃ e, l[k]? = some e := ⟨l[k]'(by rw [HL.out]; exact hlt), List.getElem?_eq_getElem _⟩
      obtain ⟨b, off, rfl, hb, c0, c1, c2, c3⟩ := (HR.out.keep (fun p hp => hBel.cell (p := p) (by omega)) : Rd wr B 4 _ n (els l)).el he
      obtain ⟨b', off', rfl, hb', d0, d1, d2, d3⟩ := (HR'.out.keep (fun p hp => hBel.cell (p := p) (by omega)) : Rd wr B' 4 _ n (els l)).el he
      have ki : (k : Int) < (n : Int) := by omega
      clear he hBel
      obtain ⟨en, er, ech, eg⟩ := e
      simp only at c0 c1 c2 c3 d0 d1 d2 d3
      go_wp2_with fail
      go_quiet (fail)
      go_wp2_with fail
      go_roundw
      case rel => exact ⟨k + 1, by omega, by go_num, below_draws HBl.out _⟩
      case measure => simp [intOf]; omega
    · obtain rfl : k = n := by omega
      clear hBel
      go_wp2_with fail
      go_ret
      exact ⟨rfl, HBl.out⟩
end Go.Proofs.Ytdajnkcjdmnnkaa
