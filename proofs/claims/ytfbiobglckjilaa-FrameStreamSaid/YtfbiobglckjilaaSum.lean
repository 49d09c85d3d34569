/-
  The walks of Sum, the program's and the reference's; and of the law's live question.
-/
import Derived.Test.YtfbiobglckjilaaBytes
import Derived.Test.YtfbiobglckjilaaCrcLaw
import Derived.Laws.BitsAllLaws
import Derived.OneCell
import Derived.Lib.SlBytesConst
namespace Go.Proofs.Ytfbiobglckjilaa
open Go Go.RowKit
set_option linter.unusedVariables false

theorem u32_xor_poly (s : Nat) (h : s < 4294967296) : bits .xor .u32 ((s : Int) / 2) (bits .and .u32 (-(bits .and .u32 (s : Int) 1) % 4294967296) 2197175160) = ((F.bit s : Nat) : Int) := by
  have e1 : bits .and .u32 (s : Int) 1 = ((s % 2 : Nat) : Int) := by
    have := u32_and_nat s 1 h (by omega)
    rw [nat_mask1] at this
    exact this
  rw [e1]
  have e0 : ((s : Int) / 2) = ((s / 2 : Nat) : Int) := by omega
  unfold F.bit
  by_cases h1 : s % 2 = 1
  · rw [if_pos h1, h1]
    have e2 : -((1 : Nat) : Int) % 4294967296 = ((4294967295 : Nat) : Int) := by omega
    rw [e2]
    have e3 : bits .and .u32 ((4294967295 : Nat) : Int) 2197175160 = ((2197175160 : Nat) : Int) := by
      have := u32_and_nat 4294967295 2197175160 (by omega) (by omega)
      rw [nat_mask32'] at this
      exact this
    rw [e3, e0, u32_xor_nat _ _ (by omega) (by omega)]
    rfl
  · rw [if_neg h1, show s % 2 = 0 by omega]
    have e2 : -((0 : Nat) : Int) % 4294967296 = ((0 : Nat) : Int) := by omega
    rw [e2]
    have e3 : bits .and .u32 ((0 : Nat) : Int) 2197175160 = ((0 : Nat) : Int) := by
      have := u32_and_nat 0 2197175160 (by omega) (by omega)
      rw [Nat.zero_and] at this
      exact this
    rw [e3, e0, u32_xor_nat _ _ (by omega) (by omega), Nat.xor_zero]

theorem bit_any (g : Nat) (s : Nat) (w : World) (hs : s < 4294967296) (hg : w.heap[g]? = some (.cells #[.int .u32 s] 24 (0, 0))) :
    Calls Try.prog 18 #[.pointer (some ⟨g, 0, none⟩)] w fun e w' => e = .returned (.tuple #[]) ∧ w' = w.setCell ⟨g, 0, none⟩ (.int .u32 (F.bit s : Nat)) := by
  have hc := cell_of_one hg
  have hf := free_of_one hg
  have hx := u32_xor_poly s hs
  clear hg hs
  go_enter Try.func18, Try.ntmps18
  go_wp2
  go_end0
  exact ⟨rfl, rfl⟩

theorem nat_not32 (s : Nat) (h : s < 4294967296) : 4294967295 ^^^ s = 4294967295 - s := by
  have e : (BitVec.allOnes 32 ^^^ BitVec.ofNat 32 s).toNat = 4294967295 - s := by
    rw [BitVec.xor_comm, BitVec.xor_allOnes, BitVec.toNat_not, BitVec.toNat_ofNat, Nat.mod_eq_of_lt (by omega)]
  rw [BitVec.toNat_xor, BitVec.toNat_ofNat, Nat.mod_eq_of_lt (by omega)] at e
  exact e

theorem u32_not (s : Nat) (h : s < 4294967296) : bits .xor .u32 IntKind.u32.max (s : Int) = ((4294967295 - s : Nat) : Int) := by
  have e : IntKind.u32.max = ((4294967295 : Nat) : Int) := by decide
  rw [e, u32_xor_nat _ _ (by omega) h, nat_not32 s h]
theorem u32_not' (s : Nat) (h : s < 4294967296) : bits .xor .u32 (s : Int) 4294967295 = ((4294967295 - s : Nat) : Int) := by
  have := u32_xor_nat s 4294967295 h (by omega)
  rw [Nat.xor_comm, nat_not32 s h] at this
  exact this
theorem u32_poly (s : Nat) (h : s < 4294967296) (h1 : s % 2 = 1) : bits .xor .u32 ((s : Int) / 2) 2197175160 = ((F.bit s : Nat) : Int) := by
  have e0 : ((s : Int) / 2) = ((s / 2 : Nat) : Int) := by omega
  have := u32_xor_nat (s / 2) 2197175160 (by omega) (by omega)
  rw [e0]
  unfold F.bit
  rw [if_pos h1]
  exact this

def biter : Nat → Nat → Nat
  | 0, s => s
  | j + 1, s => F.bit (biter j s)
theorem biter_lt (s : Nat) (h : s < 4294967296) : ∀ j, biter j s < 4294967296
  | 0 => h
  | j + 1 => F.bit_lt (biter_lt s h j)
theorem biter8 (s : Nat) : biter 8 s = F.bits8 s := rfl

/-- the block of the sum: it holds s -/
def Cap (W w : World) (g s : Nat) : Prop := w.heap[g]? = some (.cells #[.int .u32 s] 24 (0, 0)) ∧ Below W.heap.size W w ∧ W.heap.size ≤ g
theorem Cap.set {W w : World} {g s : Nat} (h : Cap W w g s) (t : Nat) : Cap W (w.setCell ⟨g, 0, none⟩ (.int .u32 t)) g t :=
  ⟨one_setCell h.1, h.2.1.setCell (p := ⟨g, 0, none⟩) h.2.2 _, h.2.2⟩

theorem crc_take {l : List Nat} {k x : Nat} (h : l[k]? = some x) (s : Nat) : F.crc s (l.take (k + 1)) = F.step (F.crc s (l.take k)) x := by
  have hk : k < l.length := by
    rcases Nat.lt_or_ge k l.length with h' | h'
    · exact h'
    · rw [List.getElem?_eq_none h'] at h; cases h
  rw [List.take_add_one, h]
  simp [F.crc, List.foldl_append]

set_option maxRecDepth 100000 in
theorem sum_any {w : World} {A : Option Addr} {n c : Nat} {l : List Nat} (h : Rd w w.heap.size 1 A n (by8 l)) (hl : ∀ x ∈ l, x < 256) (hm : n ≤ maxLen) :
    Calls Try.prog 11 #[.slice A n c] w fun e w' => e = .returned (.int .u32 (F.sum l : Nat)) ∧ Below w.heap.size w w' := by
  have hlen : l.length = n := by simpa [by8_len] using h.len1
  have HL := Lib.hid hlen
  have HB := Lib.hid hl
  have H := Lib.hid h
  clear hlen hl h
  unfold maxLen at hm
  go_enter Try.func11, Try.ntmps11
  go_wp2
  go_loopw [10] (fun i wr => ∃ k s : Nat, i = .int .i64 k ∧ k ≤ n ∧ Cap w wr w.heap.size s ∧ s = F.crc 4294967295 (l.take k)) (fun i _ => n - (intOf i).toNat)
  case atStart => exact ⟨0, 4294967295, rfl, by omega, ⟨heap_alloc_new w _, (Below.refl _ _).alloc (Nat.le_refl _) _, Nat.le_refl _⟩, rfl⟩
  case round =>
    obtain ⟨k, s, rfl, hk, hcap, hs⟩ := hrel
    have HS := Lib.hid hs
    have HC := Lib.hid hcap
    clear hs hcap
    obtain ⟨wo, hwo⟩ : ∃ wo : World, wo = wr := ⟨_, rfl⟩
    subst hwo
    have s1 := cell_of_one HC.out.1
    have s2 := free_of_one HC.out.1
    have hs32 := HS.out ▸ F.crc_lt (l.take k) (s := 4294967295) (by omega) (fun x hx => HB.out x (List.mem_of_mem_take hx))
    have H32 := Lib.hid hs32
    clear hs32
    by_cases hlt : k < n
    · obtain ⟨b, off, u, rfl, _, hu, hc⟩ := (H.out.below HC.out.2.1).cell hlt
      obtain ⟨x, hx⟩ : ∃ x : Nat, l[k]? = some x := ⟨l[k]'(by rw [HL.out]; exact hlt), List.getElem?_eq_getElem _⟩
      have hu' : u = .int .u8 (x : Int) := by simpa [by8, hx] using hu.symm
      subst hu'
      have hx256 : x < 256 := HB.out x (List.mem_of_getElem? hx)
      have HX := Lib.hid hx
      clear hx hu
      have f := u32_xor_nat s x H32.out (by omega)
      have hy32 := F.xor_lt H32.out (show x < 4294967296 by omega)
      obtain ⟨y, hy⟩ : ∃ y, y = s ^^^ x := ⟨_, rfl⟩
      rw [← hy] at f hy32
      have HY := Lib.hid hy
      have HY32 := Lib.hid hy32
      clear hy hy32
      go_wp2
      go_loopw [18] (fun i wr => ∃ j : Nat, i = .int .i64 j ∧ j ≤ 8 ∧ Cap w wr w.heap.size (biter j y)) (fun i _ => 8 - (intOf i).toNat)
      case atStart => exact ⟨0, rfl, by omega, HC.out.set y⟩
      case round =>
        obtain ⟨j, rfl, hj, hcap⟩ := hrel
        have HC2 := Lib.hid hcap
        clear hcap
        by_cases hj8 : j < 8
        · have BC := Lib.hid (bit_any w.heap.size (biter j y) wr (biter_lt y HY32.out j) HC2.out.1)
          go_wp2_with (go_at_call 18; refine BC.out.mono ?_; rintro e w' ⟨rfl, rfl⟩)
          go_roundw
          case rel => exact ⟨j + 1, by go_num, by omega, HC2.out.set _⟩
          case measure => simp [intOf]; omega
        · have h8 : j = 8 := by omega
          have HC3 : Hid (Cap w wr w.heap.size (F.step s x)) := Lib.hid (by have := HC2.out; rw [h8, biter8, HY.out] at this; exact this)
          clear h8
          go_wp2
          go_roundw
          case rel => exact ⟨k + 1, F.step s x, by go_num, by omega, HC3.out, by rw [crc_take HX.out, ← HS.out]⟩
          case measure => simp [intOf]; omega
    · have hkn : k = n := by omega
      have HF : Hid (s = F.crc 4294967295 l) := Lib.hid (by rw [HS.out, hkn, List.take_of_length_le (by rw [HL.out]; exact Nat.le_refl _)])
      clear hkn
      have HN := Lib.hid (u32_not s H32.out)
      go_wp2
      go_ret
      exact ⟨ret_int (by rw [HN.out, HF.out]; rfl), HC.out.2.1⟩

set_option maxRecDepth 100000 in
theorem rsum_any {w : World} {B : Nat} {A : Option Addr} {n c : Nat} {l : List Nat} (h : Rd w B 1 A n (by8 l)) (hl : ∀ x ∈ l, x < 256) (hm : n ≤ maxLen) :
    Calls Try.prog 13 #[.slice A n c] w fun e w' => e = .returned (.int .u32 (F.sum l : Nat)) ∧ w = w' := by
  have hlen : l.length = n := by simpa [by8_len] using h.len1
  have HL := Lib.hid hlen
  have HB := Lib.hid hl
  have H := Lib.hid h
  clear hlen hl h
  unfold maxLen at hm
  go_enter Try.func13, Try.ntmps13
  go_wp2
  go_loop [3, 4] (fun a i => ∃ k s : Nat, i = .int .i64 k ∧ k ≤ n ∧ a = .int .u32 s ∧ s = F.crc 4294967295 (l.take k)) (fun _ i => n - (intOf i).toNat)
  case atStart => exact ⟨0, 4294967295, rfl, by omega, rfl, rfl⟩
  case round =>
    obtain ⟨k, s, rfl, hk, rfl, hs⟩ := hrel
    have HS := Lib.hid hs
    clear hs
    have hs32 := HS.out ▸ F.crc_lt (l.take k) (s := 4294967295) (by omega) (fun x hx => HB.out x (List.mem_of_mem_take hx))
    have H32 := Lib.hid hs32
    clear hs32
    by_cases hlt : k < n
    · obtain ⟨b, off, u, rfl, _, hu, hc⟩ := H.out.cell hlt
      obtain ⟨x, hx⟩ : ∃ x : Nat, l[k]? = some x := ⟨l[k]'(by rw [HL.out]; exact hlt), List.getElem?_eq_getElem _⟩
      have hu' : u = .int .u8 (x : Int) := by simpa [by8, hx] using hu.symm
      subst hu'
      have hx256 : x < 256 := HB.out x (List.mem_of_getElem? hx)
      have HX := Lib.hid hx
      clear hx hu
      have f := u32_xor_nat s x H32.out (by omega)
      have hy32 := F.xor_lt H32.out (show x < 4294967296 by omega)
      obtain ⟨y, hy⟩ : ∃ y, y = s ^^^ x := ⟨_, rfl⟩
      rw [← hy] at f hy32
      have HY := Lib.hid hy
      have HY32 := Lib.hid hy32
      clear hy hy32
      go_wp2
      go_loop [3, 5] (fun a i => ∃ j z : Nat, i = .int .i64 j ∧ j ≤ 8 ∧ a = .int .u32 z ∧ z = biter j y) (fun _ i => 8 - (intOf i).toNat)
      case atStart => exact ⟨0, y, rfl, by omega, rfl, rfl⟩
      case round =>
        obtain ⟨j, z, rfl, hj, rfl, hz⟩ := hrel
        have HZ := Lib.hid hz
        have HZ32 := Lib.hid (hz ▸ biter_lt y HY32.out j)
        clear hz
        by_cases hj8 : j < 8
        · by_cases h2 : z % 2 = 1
          · have g1 : ((z : Int) % 2 == 1) = true := by simpa using (by omega : (z : Int) % 2 = 1)
            have g2 := u32_poly z HZ32.out h2
            have hw : IntKind.u32.wrap ((z : Int) / 2) = (z : Int) / 2 := by have := HZ32.out; rw [IntKind.wrap_u32]; omega
            clear h2
            go_wp2
            go_round
            case rel => exact ⟨j + 1, F.bit z, by go_num, by omega, rfl, by rw [HZ.out]; rfl⟩
            case measure => simp [intOf]; omega
          · have g1 : ((z : Int) % 2 == 1) = false := by simpa using (by omega : ¬ (z : Int) % 2 = 1)
            have hw : IntKind.u32.wrap ((z : Int) / 2) = (z : Int) / 2 := by have := HZ32.out; rw [IntKind.wrap_u32]; omega
            have hb : Hid (F.bit z = z / 2) := Lib.hid (by unfold F.bit; rw [if_neg h2])
            clear h2
            go_wp2
            go_round
            case rel => exact ⟨j + 1, F.bit z, by go_num, by omega, by rw [hb.out]; go_num, by rw [HZ.out]; rfl⟩
            case measure => simp [intOf]; omega
        · have h8 : j = 8 := by omega
          have HZ8 : Hid (z = F.step s x) := Lib.hid (by rw [HZ.out, h8, biter8, HY.out]; rfl)
          clear h8
          go_wp2
          go_round
          case rel => exact ⟨k + 1, z, by go_num, by omega, rfl, by rw [crc_take HX.out, ← HS.out, HZ8.out]⟩
          case measure => simp [intOf]; omega
    · have hkn : k = n := by omega
      have HF : Hid (s = F.crc 4294967295 l) := Lib.hid (by rw [HS.out, hkn, List.take_of_length_le (by rw [HL.out]; exact Nat.le_refl _)])
      clear hkn
      have HN := u32_not' s H32.out
      go_wp2
      go_ret
      exact ⟨ret_int (by rw [HF.out]; rfl), rfl⟩

theorem rd_new (w : World) (C : Array Value) (t : TypeId) (fr : Nat × Nat) (B n : Nat) (hB : w.heap.size < B) (hn : n = C.size) : Rd (w.alloc (.cells C t fr)) B 1 (some ⟨w.heap.size, 0, none⟩) n C.toList := by
  subst hn
  refine ⟨by simp, .inr ⟨w.heap.size, 0, rfl, hB, fun j u hu => ?_⟩⟩
  rw [World.cell?_alloc_mark]
  simpa using hu

theorem alive_any (w : World) : Calls Try.prog 10 #[] w fun e w' => e = .returned (.bool true) ∧ Below w.heap.size w w' := by
  have kc := fun (w : World) (C : Array Value) (n c : Nat) => Lib.run_convert_bytes_const (P := Try.prog) w 22 5 C n c Try.underlying22 Try.underlying5
  have hr := rd_new w (by8 [49, 50, 51, 52, 53, 54, 55, 56, 57]).toArray 5 (9, 10) (w.heap.size + 1) 9 (by omega) rfl
  have HR := Lib.hid hr
  clear hr
  go_enter Try.func10, Try.ntmps10
  go_wp2_with fail
  refine (sum_any (l := [49, 50, 51, 52, 53, 54, 55, 56, 57]) (by rw [World.size_alloc]; exact HR.out) (by decide) (by decide)).mono ?_
  rintro e w1 ⟨rfl, hB1⟩
  rw [F.sum_check]
  go_wp2_with fail
  go_ret
  exact ⟨rfl, ((Below.refl _ w).alloc (Nat.le_refl _) _).trans (hB1.mono (by rw [World.size_alloc]; omega))⟩
end Go.Proofs.Ytfbiobglckjilaa
