/-
  THE WALK OF FrameByte.
-/
import Derived.Test.YtfbiobglckjilaaWFrameBack
import Derived.Test.YtfbiobglckjilaaByteLaw
namespace Go.Proofs.Ytfbiobglckjilaa
open Go Go.RowKit
set_option linter.unusedVariables false

set_option maxRecDepth 100000 in
set_option maxHeartbeats 4000000 in
theorem frameByte.walk (W : World) (K : Nat) (A : Option Addr) (n c : Nat) (l : List Nat) (at_ : Int) (by_ : Nat) (k : ChangedIn W K A n c l at_ by_) :
    Calls Try.prog 8 #[.agg #[.int .u8 (K : Nat), .slice A n c, .int .i64 at_, .int .u8 (by_ : Nat)]] W fun e w' => e = .returned (.bool true) ∧ Below W.heap.size W w' := by
  have B := Lib.hid k.body
  have hK := k.kind
  have hcl := k.lo
  have hch := k.hi
  have hby := k.byt
  have HL := Lib.hid (show l.length = n by simpa [by8_len] using k.body.rd.len1)
  clear k
  by_cases h5 : 5000 < n
  · clear hcl hch
    go_enter Try.func8, Try.ntmps8
    go_wp2_with fail
    refine (alive_any _).mono ?_
    rintro e w4 ⟨rfl, hB4⟩
    go_wp2_with fail
    go_ret
    exact ⟨rfl, ((Below.refl _ W).alloc (Nat.le_refl _) _).trans (hB4.mono (by simp))⟩
  have HCL := Lib.hid hcl
  have HCH := Lib.hid hch
  clear hcl hch
  have hle : n ≤ 65536 := by omega
  go_enter Try.func8, Try.ntmps8
  go_wp2_with fail
  refine (wrap_any ((B.out.rd.alloc (Nat.le_refl _) _).more (by simp)) B.out.lt hle hK).mono ?_
  intro e w3 hw3
  obtain ⟨g, c3, rfl, hg, hrow, hc3, hm3, hB3⟩ := hw3.read HL.out
  clear hw3
  have HB3 : Hid (Below W.heap.size W w3) := Lib.hid (((Below.refl _ W).alloc (Nat.le_refl _) _).trans (hB3.mono (by simp)))
  have HG : Hid (W.heap.size ≤ g) := Lib.hid (by simp at hg; omega)
  have HC3 := Lib.hid hc3
  have HM3 := Lib.hid hm3
  have XOR := Lib.hid (fun p => u8_xor_nat _ _ (getD_lt (F.wrap_byte hK B.out.lt) p) hby)
  have i1 : ((11 + n : Nat) : Int) = 11 + (n : Int) := by omega
  clear hB3 hg hc3 hm3
  obtain ⟨q, hq⟩ : ∃ q : Nat, (at_ < 0 ∧ -(at_ + 1) = (q : Int) ∧ q < 9223372036854775808) ∨ (0 ≤ at_ ∧ at_ = (q : Int) ∧ q < 9223372036854775808) := by
    have h1 := HCL.out
    have h2 := HCH.out
    by_cases h0 : at_ < 0
    · exact ⟨(-(at_ + 1)).toNat, .inl ⟨h0, by omega, by omega⟩⟩
    · exact ⟨at_.toNat, .inr ⟨by omega, by omega, by omega⟩⟩
  obtain ⟨r, hr⟩ : ∃ m, m = q % (n + 5) := ⟨_, rfl⟩
  have hrl : r < n + 5 := by rw [hr]; exact Nat.mod_lt _ (by omega)
  have hrem : Int.tmod (q : Int) ((n : Int) + 5) = (r : Int) := by
    rw [hr]
    have e : ((n : Int) + 5) = ((n + 5 : Nat) : Int) := by omega
    rw [e]
    simp [Int.tmod]
  have j2 : ¬ ((n : Int) + 5) = 0 := by omega
  have w6a : IntKind.i64.wrap (6 + (r : Int)) = 6 + (r : Int) := IntWalk.i64_in _ (by omega)
  have w6b : wrap64 (6 + (r : Int)) = 6 + (r : Int) := IntWalk.wrap64_in _ (by omega)
  clear hr
  rcases hq with ⟨h0, hq, hql⟩ | ⟨h0, hq, hql⟩
  · have hu : IntKind.i64.wrap (at_ + 1) = at_ + 1 := IntWalk.i64_in _ (by have := HCL.out; omega)
    have hu2 : wrap64 (q : Int) = (q : Int) := IntWalk.wrap64_in _ (by omega)
    clear hql
    by_cases hr0 : r = 0
    · have he : ((6 : Int) + (r : Int) == 6) = true := by simp [hr0]
      obtain ⟨p, rfl⟩ : ∃ p, p = 2 := ⟨_, rfl⟩
      have hpl : 2 < 11 + n := by omega
      have hpo : 2 = 2 ∨ (7 ≤ 2 ∧ 2 < 11 + n) := .inl rfl
      have hgp : (F.wrap K l)[2]? = some ((F.wrap K l).getD 2 0) := by rw [List.getD_eq_getElem?_getD, List.getElem?_eq_getElem (by rw [F.wrap_len, HL.out]; exact hpl)]; rfl
      have hxor := XOR.out 2
      clear hr0
      have hcell := hrow.cell (j := 2) (x := (F.wrap K l).getD 2 0) hgp
      have hfree := hrow.free 2
      obtain ⟨hst, hgs⟩ := hrow.store 2 ((F.wrap K l).getD 2 0 ^^^ by_)
      obtain ⟨x, hx⟩ : ∃ x, x = (F.wrap K l).getD 2 0 := ⟨_, rfl⟩
      rw [← hx] at hcell hst hgs hxor
      have hpn : (2 : Int) < 11 + (n : Int) := by omega
      have hpn2 : 2 < 11 + n := hpl
      obtain ⟨L, hL⟩ : ∃ L, L = (F.wrap K l).set 2 (x ^^^ by_) := ⟨_, rfl⟩
      rw [← hL] at hst
      have HT : Hid (F.tErr L = if by_ = 0 then 0 else 51) := Lib.hid (by rw [hL, hx]; exact F.byte_law hK B.out.lt (by rw [HL.out]; exact hle) (by rw [HL.out]; exact hpo) hby)
      have HL256 : Hid (∀ x ∈ L, x < 256) := Lib.hid (by
        intro y hy
        rw [hL] at hy
        rcases List.mem_or_eq_of_mem_set hy with h1 | h1
        · exact F.wrap_byte hK B.out.lt y h1
        · rw [h1, hx]; exact F.xor_byte (getD_lt (F.wrap_byte hK B.out.lt) 2) hby)
      have ST := Lib.hid hst
      have GS := Lib.hid hgs
      clear hx hL hst hgs hpl hgp hpo
      go_wp2_with fail
      refine (take_any ST.out.rd HL256.out (by omega) HC3.out HM3.out).mono ?_
      rintro e w6 ⟨A6, c6, rfl, hown6, hB6⟩
      rw [HT.out]
      have HB6 : Hid (Below W.heap.size W w6) := Lib.hid ((HB3.out.grown GS.out HB3.out.size (fun k hk => by cases hk; exact HG.out)).trans (hB6.mono (by have := HB3.out.size; simp; omega)))
      clear hown6 hB6
      generalize (F.tBody L).length = tbl
      generalize F.tKind L = tk
      generalize F.tLen L = tln
      by_cases hb0 : by_ = 0
      · have g1 : ((by_ : Int) == 0) = true := by simp [hb0]
        have g2 : ((by_ : Int) != 0) = false := by simp [hb0]
        rw [if_pos hb0]
        clear hb0
        go_wp2_with fail
        refine (alive_any _).mono ?_
        rintro e w8 ⟨rfl, hB8⟩
        go_wp2_with fail
        go_ret
        exact ⟨by simp, HB6.out.trans (hB8.mono HB6.out.size)⟩
      · have g1 : ((by_ : Int) == 0) = false := by simpa using hb0
        have g2 : ((by_ : Int) != 0) = true := by rw [bne, g1]; rfl
        rw [if_neg hb0]
        clear hb0
        go_wp2_with fail
        refine (alive_any _).mono ?_
        rintro e w8 ⟨rfl, hB8⟩
        go_wp2_with fail
        go_ret
        exact ⟨by simp, HB6.out.trans (hB8.mono HB6.out.size)⟩
    · have he : ((6 : Int) + (r : Int) == 6) = false := by
        have : ¬ ((6 : Int) + (r : Int) = 6) := by omega
        simpa using this
      obtain ⟨p, hp⟩ : ∃ p, p = 6 + r := ⟨_, rfl⟩
      have hpi : (6 : Int) + (r : Int) = (p : Int) := by omega
      have hpl : p < 11 + n := by omega
      have hpo : p = 2 ∨ (7 ≤ p ∧ p < 11 + n) := .inr ⟨by omega, hpl⟩
      have hgp : (F.wrap K l)[p]? = some ((F.wrap K l).getD p 0) := by rw [List.getD_eq_getElem?_getD, List.getElem?_eq_getElem (by rw [F.wrap_len, HL.out]; exact hpl)]; rfl
      have hxor := XOR.out p
      rw [hpi] at he
      clear hr0 hp hrl
      have hcell := hrow.cell (j := p) (x := (F.wrap K l).getD p 0) hgp
      have hfree := hrow.free p
      obtain ⟨hst, hgs⟩ := hrow.store p ((F.wrap K l).getD p 0 ^^^ by_)
      obtain ⟨x, hx⟩ : ∃ x, x = (F.wrap K l).getD p 0 := ⟨_, rfl⟩
      rw [← hx] at hcell hst hgs hxor
      have hpn : (p : Int) < 11 + (n : Int) := by omega
      have hpn2 : p < 11 + n := hpl
      obtain ⟨L, hL⟩ : ∃ L, L = (F.wrap K l).set p (x ^^^ by_) := ⟨_, rfl⟩
      rw [← hL] at hst
      have HT : Hid (F.tErr L = if by_ = 0 then 0 else 51) := Lib.hid (by rw [hL, hx]; exact F.byte_law hK B.out.lt (by rw [HL.out]; exact hle) (by rw [HL.out]; exact hpo) hby)
      have HL256 : Hid (∀ x ∈ L, x < 256) := Lib.hid (by
        intro y hy
        rw [hL] at hy
        rcases List.mem_or_eq_of_mem_set hy with h1 | h1
        · exact F.wrap_byte hK B.out.lt y h1
        · rw [h1, hx]; exact F.xor_byte (getD_lt (F.wrap_byte hK B.out.lt) p) hby)
      have ST := Lib.hid hst
      have GS := Lib.hid hgs
      clear hx hL hst hgs hpl hgp hpo
      go_wp2_with fail
      refine (take_any ST.out.rd HL256.out (by omega) HC3.out HM3.out).mono ?_
      rintro e w6 ⟨A6, c6, rfl, hown6, hB6⟩
      rw [HT.out]
      have HB6 : Hid (Below W.heap.size W w6) := Lib.hid ((HB3.out.grown GS.out HB3.out.size (fun k hk => by cases hk; exact HG.out)).trans (hB6.mono (by have := HB3.out.size; simp; omega)))
      clear hown6 hB6
      generalize (F.tBody L).length = tbl
      generalize F.tKind L = tk
      generalize F.tLen L = tln
      by_cases hb0 : by_ = 0
      · have g1 : ((by_ : Int) == 0) = true := by simp [hb0]
        have g2 : ((by_ : Int) != 0) = false := by simp [hb0]
        rw [if_pos hb0]
        clear hb0
        go_wp2_with fail
        refine (alive_any _).mono ?_
        rintro e w8 ⟨rfl, hB8⟩
        go_wp2_with fail
        go_ret
        exact ⟨by simp, HB6.out.trans (hB8.mono HB6.out.size)⟩
      · have g1 : ((by_ : Int) == 0) = false := by simpa using hb0
        have g2 : ((by_ : Int) != 0) = true := by rw [bne, g1]; rfl
        rw [if_neg hb0]
        clear hb0
        go_wp2_with fail
        refine (alive_any _).mono ?_
        rintro e w8 ⟨rfl, hB8⟩
        go_wp2_with fail
        go_ret
        exact ⟨by simp, HB6.out.trans (hB8.mono HB6.out.size)⟩
  · have hrem2 : Int.tmod at_ ((n : Int) + 5) = (r : Int) := by rw [hq]; exact hrem
    have hnl : ¬ (at_ < 0) := by omega
    clear hql h0 hrem hq
    by_cases hr0 : r = 0
    · have he : ((6 : Int) + (r : Int) == 6) = true := by simp [hr0]
      obtain ⟨p, rfl⟩ : ∃ p, p = 2 := ⟨_, rfl⟩
      have hpl : 2 < 11 + n := by omega
      have hpo : 2 = 2 ∨ (7 ≤ 2 ∧ 2 < 11 + n) := .inl rfl
      have hgp : (F.wrap K l)[2]? = some ((F.wrap K l).getD 2 0) := by rw [List.getD_eq_getElem?_getD, List.getElem?_eq_getElem (by rw [F.wrap_len, HL.out]; exact hpl)]; rfl
      have hxor := XOR.out 2
      clear hr0
      have hcell := hrow.cell (j := 2) (x := (F.wrap K l).getD 2 0) hgp
      have hfree := hrow.free 2
      obtain ⟨hst, hgs⟩ := hrow.store 2 ((F.wrap K l).getD 2 0 ^^^ by_)
      obtain ⟨x, hx⟩ : ∃ x, x = (F.wrap K l).getD 2 0 := ⟨_, rfl⟩
      rw [← hx] at hcell hst hgs hxor
      have hpn : (2 : Int) < 11 + (n : Int) := by omega
      have hpn2 : 2 < 11 + n := hpl
      obtain ⟨L, hL⟩ : ∃ L, L = (F.wrap K l).set 2 (x ^^^ by_) := ⟨_, rfl⟩
      rw [← hL] at hst
      have HT : Hid (F.tErr L = if by_ = 0 then 0 else 51) := Lib.hid (by rw [hL, hx]; exact F.byte_law hK B.out.lt (by rw [HL.out]; exact hle) (by rw [HL.out]; exact hpo) hby)
      have HL256 : Hid (∀ x ∈ L, x < 256) := Lib.hid (by
        intro y hy
        rw [hL] at hy
        rcases List.mem_or_eq_of_mem_set hy with h1 | h1
        · exact F.wrap_byte hK B.out.lt y h1
        · rw [h1, hx]; exact F.xor_byte (getD_lt (F.wrap_byte hK B.out.lt) 2) hby)
      have ST := Lib.hid hst
      have GS := Lib.hid hgs
      clear hx hL hst hgs hpl hgp hpo
      go_wp2_with fail
      refine (take_any ST.out.rd HL256.out (by omega) HC3.out HM3.out).mono ?_
      rintro e w6 ⟨A6, c6, rfl, hown6, hB6⟩
      rw [HT.out]
      have HB6 : Hid (Below W.heap.size W w6) := Lib.hid ((HB3.out.grown GS.out HB3.out.size (fun k hk => by cases hk; exact HG.out)).trans (hB6.mono (by have := HB3.out.size; simp; omega)))
      clear hown6 hB6
      generalize (F.tBody L).length = tbl
      generalize F.tKind L = tk
      generalize F.tLen L = tln
      by_cases hb0 : by_ = 0
      · have g1 : ((by_ : Int) == 0) = true := by simp [hb0]
        have g2 : ((by_ : Int) != 0) = false := by simp [hb0]
        rw [if_pos hb0]
        clear hb0
        go_wp2_with fail
        refine (alive_any _).mono ?_
        rintro e w8 ⟨rfl, hB8⟩
        go_wp2_with fail
        go_ret
        exact ⟨by simp, HB6.out.trans (hB8.mono HB6.out.size)⟩
      · have g1 : ((by_ : Int) == 0) = false := by simpa using hb0
        have g2 : ((by_ : Int) != 0) = true := by rw [bne, g1]; rfl
        rw [if_neg hb0]
        clear hb0
        go_wp2_with fail
        refine (alive_any _).mono ?_
        rintro e w8 ⟨rfl, hB8⟩
        go_wp2_with fail
        go_ret
        exact ⟨by simp, HB6.out.trans (hB8.mono HB6.out.size)⟩
    · have he : ((6 : Int) + (r : Int) == 6) = false := by
        have : ¬ ((6 : Int) + (r : Int) = 6) := by omega
        simpa using this
      obtain ⟨p, hp⟩ : ∃ p, p = 6 + r := ⟨_, rfl⟩
      have hpi : (6 : Int) + (r : Int) = (p : Int) := by omega
      have hpl : p < 11 + n := by omega
      have hpo : p = 2 ∨ (7 ≤ p ∧ p < 11 + n) := .inr ⟨by omega, hpl⟩
      have hgp : (F.wrap K l)[p]? = some ((F.wrap K l).getD p 0) := by rw [List.getD_eq_getElem?_getD, List.getElem?_eq_getElem (by rw [F.wrap_len, HL.out]; exact hpl)]; rfl
      have hxor := XOR.out p
      rw [hpi] at he
      clear hr0 hp hrl
      have hcell := hrow.cell (j := p) (x := (F.wrap K l).getD p 0) hgp
      have hfree := hrow.free p
      obtain ⟨hst, hgs⟩ := hrow.store p ((F.wrap K l).getD p 0 ^^^ by_)
      obtain ⟨x, hx⟩ : ∃ x, x = (F.wrap K l).getD p 0 := ⟨_, rfl⟩
      rw [← hx] at hcell hst hgs hxor
      have hpn : (p : Int) < 11 + (n : Int) := by omega
      have hpn2 : p < 11 + n := hpl
      obtain ⟨L, hL⟩ : ∃ L, L = (F.wrap K l).set p (x ^^^ by_) := ⟨_, rfl⟩
      rw [← hL] at hst
      have HT : Hid (F.tErr L = if by_ = 0 then 0 else 51) := Lib.hid (by rw [hL, hx]; exact F.byte_law hK B.out.lt (by rw [HL.out]; exact hle) (by rw [HL.out]; exact hpo) hby)
      have HL256 : Hid (∀ x ∈ L, x < 256) := Lib.hid (by
        intro y hy
        rw [hL] at hy
        rcases List.mem_or_eq_of_mem_set hy with h1 | h1
        · exact F.wrap_byte hK B.out.lt y h1
        · rw [h1, hx]; exact F.xor_byte (getD_lt (F.wrap_byte hK B.out.lt) p) hby)
      have ST := Lib.hid hst
      have GS := Lib.hid hgs
      clear hx hL hst hgs hpl hgp hpo
      go_wp2_with fail
      refine (take_any ST.out.rd HL256.out (by omega) HC3.out HM3.out).mono ?_
      rintro e w6 ⟨A6, c6, rfl, hown6, hB6⟩
      rw [HT.out]
      have HB6 : Hid (Below W.heap.size W w6) := Lib.hid ((HB3.out.grown GS.out HB3.out.size (fun k hk => by cases hk; exact HG.out)).trans (hB6.mono (by have := HB3.out.size; simp; omega)))
      clear hown6 hB6
      generalize (F.tBody L).length = tbl
      generalize F.tKind L = tk
      generalize F.tLen L = tln
      by_cases hb0 : by_ = 0
      · have g1 : ((by_ : Int) == 0) = true := by simp [hb0]
        have g2 : ((by_ : Int) != 0) = false := by simp [hb0]
        rw [if_pos hb0]
        clear hb0
        go_wp2_with fail
        refine (alive_any _).mono ?_
        rintro e w8 ⟨rfl, hB8⟩
        go_wp2_with fail
        go_ret
        exact ⟨by simp, HB6.out.trans (hB8.mono HB6.out.size)⟩
      · have g1 : ((by_ : Int) == 0) = false := by simpa using hb0
        have g2 : ((by_ : Int) != 0) = true := by rw [bne, g1]; rfl
        rw [if_neg hb0]
        clear hb0
        go_wp2_with fail
        refine (alive_any _).mono ?_
        rintro e w8 ⟨rfl, hB8⟩
        go_wp2_with fail
        go_ret
        exact ⟨by simp, HB6.out.trans (hB8.mono HB6.out.size)⟩
end Go.Proofs.Ytfbiobglckjilaa
