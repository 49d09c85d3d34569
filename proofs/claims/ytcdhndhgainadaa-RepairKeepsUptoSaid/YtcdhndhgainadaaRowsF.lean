/-
  The contracts of row (program and document), from node's.
-/
import Derived.Test.YtcdhndhgainadaaRWrapF
import Derived.Test.YtcdhndhgainadaaRepSize
import Derived.Test.YtcdhndhgainadaaSameT
namespace Go.Proofs.Ytcdhndhgainadaa
open Go Go.RowKit
set_option linter.unusedVariables false
set_option linter.unusedSimpArgs false

def NodeC (f N : Nat) : Prop := ∀ t : RT, rsize t < N → rsize t ≤ 100000 → ∀ (w : World) (S : Nat → Prop) (v : List Value), (∀ b, S b → b < w.heap.size) → NdF w S v t → Calls Try.prog f #[.agg v.toArray] w (GivesR w S (nodeT t))
def RowC (f N : Nat) : Prop := ∀ ts : List RT, rsizeL ts < N → rsizeL ts ≤ 100000 → ∀ (w : World) (S : Nat → Prop) (A : Option Addr) (n c : Nat), (∀ b, S b → b < w.heap.size) → RdF w S A n c ts → Calls Try.prog f #[.slice A n c] w (GivesR w S (rowT ts))

theorem rowT_append : ∀ a b : List RT, rowT (a ++ b) = rowT a ++ rowT b
  | [], b => by simp [rowT]
  | t :: ts, b => by rw [List.cons_append, rowT, rowT, rowT_append ts b, List.append_assoc]
theorem rowT_one (t : RT) : rowT [t] = nodeT t := by simp [rowT]
theorem rowT_take {ts : List RT} {i : Nat} {t : RT} (h : ts[i]? = some t) : rowT (ts.take (i + 1)) = rowT (ts.take i) ++ nodeT t := by
  obtain ⟨h1, rfl⟩ := List.getElem?_eq_some_iff.1 h
  rw [List.take_succ_eq_append_getElem h1, rowT_append, rowT_one]
theorem rowT_len (ts : List RT) : (rowT ts).length ≤ 5 * rsizeL ts := by
  have h1 := rowT_size ts
  have h2 := rsizeL_len (rowT ts)
  omega
theorem rsizeL_take (ts : List RT) (i : Nat) : rsizeL (ts.take i) ≤ rsizeL ts := by
  conv => rhs; rw [← List.take_append_drop i ts]
  rw [rsizeL_append]; omega

set_option maxRecDepth 100000 in
set_option maxHeartbeats 2000000 in
theorem row41_of (N : Nat) (hN : NodeC 51 N) : RowC 41 N := by
  intro ts h1 h2 w S A n c hS hr
  have HN := Lib.hid hN
  have HS := Lib.hid hS
  have HR := Lib.hid hr
  have HL := Lib.hid hr.length
  have H1 := Lib.hid h1
  have H2 := Lib.hid h2
  have hn : n ≤ 100000 := by rw [← hr.length]; exact Nat.le_trans (rsizeL_len ts) h2
  clear hN hS hr h1 h2
  go_enter Try.func41, Try.ntmps41
  go_wp2_with fail
  go_loopw [3, 8] (fun s3 s8 wr => ∃ (i : Nat) (zs : List (Z RT 6)) (B : Option Addr) (d : Nat), s8 = .int .i64 i ∧ i ≤ n ∧ s3 = .slice B zs.length d ∧ Hid (Row wr w.heap.size S (.slice B zs.length d) zs) ∧ Hid (vz zs = rowT (ts.take i)) ∧ Hid (Below w.heap.size w wr)) (fun s3 s8 _ => n - (intOf s8).toNat)
  case atStart => exact ⟨0, [], none, 0, rfl, Nat.zero_le _, rfl, Lib.hid (Row.nil _ _ _), Lib.hid (by simp [vz, rowT]), Lib.hid (Below.refl _ _)⟩
  case round =>
    obtain ⟨i, zs, B, d, rfl, hin, rfl, HROW, HEQ, HB⟩ := hrel
    by_cases hlt : i < n
    · obtain ⟨b, off, x, u0, u1, u2, u3, u3n, u3c, u4, u4n, u4c, u5, u5n, u5c, rfl, hx, hb, hSb, hxk, hxn, c0, c1, c2, c3, c4, c5⟩ := (HR.out.stay (.below HB.out fun _ _ h => h) : RdF wr S A n c ts).nodeAt hlt
      have ik : (i : Int) < (n : Int) := by omega
      have ik0 : (0 : Int) ≤ (i : Int) := by omega
      have hmem := rsize_mem (List.mem_of_getElem? hx)
      have hlt1 : rsize x < N := by have := H1.out; omega
      have hlt2 : rsize x ≤ 100000 := by have := H2.out; omega
      have hB1 : Below wr.heap.size wr (wr.alloc (.cells #[.int .i64 u0, .int .i64 u1, .string u2, .slice u3 u3n u3c, .slice u4 u4n u4c, .slice u5 u5n u5c] 31)) := blAl _
      have HC := Lib.hid (HN.out x hlt1 hlt2 (wr.alloc (.cells #[.int .i64 u0, .int .i64 u1, .string u2, .slice u3 u3n u3c, .slice u4 u4n u4c, .slice u5 u5n u5c] 31)) S _ (fun b h => Nat.lt_of_lt_of_le (HS.out b h) (Nat.le_trans HB.out.size hB1.size)) (hxn.stay (.below hB1 fun _ _ h => h)))
      have HX := Lib.hid hx
      have HB1 := Lib.hid hB1
      clear hx hSb hb hxk hxn hmem hlt1 hlt2 hB1
      go_wp2_with fail
      refine HC.out.mono ?_
      rintro e w2 ⟨A2, n2, d2, rfl, hr2, hB2⟩
      obtain ⟨zs', hz', hZ'⟩ := hr2.z
      have hzl := hZ'.len
      subst hzl
      have hB3 : Below wr.heap.size wr w2 := HB1.out.trans (hB2.mono HB1.out.size)
      have hrow : Row w2 w.heap.size S (.slice B zs.length d) zs := HROW.out.below hB3
      have hsub : ∀ b, b < w2.heap.size → Sn (wr.alloc (.cells #[.int .i64 u0, .int .i64 u1, .string u2, .slice u3 u3n u3c, .slice u4 u4n u4c, .slice u5 u5n u5c] 31)).heap.size S b → Sx w.heap.size S (.slice B zs.length d) b := fun b _ h =>
        sx_of (fun g hg => (HROW.out.low g hg).2) HS.out (fun g hg => (HROW.out.low g hg).1) HB.out.size b (h.imp id fun h => Nat.le_trans HB1.out.size h)
      have hlen : zs.length + zs'.length ≤ 900000 := by
        have e1 : (rowT (ts.take (i + 1))).length = zs.length + zs'.length := by rw [rowT_take HX.out, List.length_append, ← HEQ.out, ← hz', vz_len, vz_len]
        have e2 := rowT_len (ts.take (i + 1))
        have e3 := rsizeL_take ts (i + 1)
        have := H2.out
        omega
      have hnw : w.heap.size ≤ w2.heap.size := Nat.le_trans HB.out.size hB3.size
      have HRW := Lib.hid hrow
      have HZ1 := Lib.hid hZ'
      have HSB := Lib.hid hsub
      have HVZ := Lib.hid hz'
      have HNW := Lib.hid hnw
      have HB3 := Lib.hid hB3
      have HLEN := Lib.hid hlen
      clear hrow hZ' hsub hz' hnw hB2 hB3 hlen hr2 HC HB1
      go_wp2_with (at_builtin; refine wpList_rows rfl (.tmp 12) (.tmp 14) rfl rfl HRW.out rfl HZ1.out HSB.out ?len HNW.out ?_)
      case len => have := HLEN.out; omega
      intro A' c' w1 hrow1 hg1 hat1
      have HR1 := Lib.hid hrow1
      have hB1 : Below w.heap.size w w1 := HB.out.trans ((HB3.out.mono HB.out.size).trans (HRW.out.grown_below hg1 HNW.out))
      have HB1 := Lib.hid hB1
      clear hrow1 hg1 hat1 hB1
      go_wp2_with fail
      go_roundw
      case rel => exact ⟨i + 1, zs ++ zs', A', c', by go_num, by omega, by rw [List.length_append], Lib.hid (by rw [List.length_append]; exact HR1.out), Lib.hid (by rw [vz_append, HEQ.out, HVZ.out, rowT_take HX.out]), HB1⟩
      case measure => simp [intOf]; omega
    · obtain rfl : i = n := by omega
      have HF : Hid (vz zs = rowT ts) := Lib.hid (by
        have := HEQ.out
        rwa [List.take_of_length_le (by rw [HL.out]; exact Nat.le_refl _)] at this)
      go_wp2_with fail
      go_ret
      refine ⟨_, _, _, rfl, ?_, HB.out⟩
      rw [← HF.out]
      exact HROW.out.rd fun _ _ h => h

set_option maxRecDepth 100000 in
set_option maxHeartbeats 2000000 in
theorem row44_of (N : Nat) (hN : NodeC 55 N) : RowC 44 N := by
  intro ts h1 h2 w S A n c hS hr
  have HN := Lib.hid hN
  have HS := Lib.hid hS
  have HR := Lib.hid hr
  have HL := Lib.hid hr.length
  have H1 := Lib.hid h1
  have H2 := Lib.hid h2
  have hn : n ≤ 100000 := by rw [← hr.length]; exact Nat.le_trans (rsizeL_len ts) h2
  clear hN hS hr h1 h2
  go_enter Try.func44, Try.ntmps44
  go_wp2_with fail
  go_loopw [3, 4] (fun s3 s4 wr => ∃ (i : Nat) (zs : List (Z RT 6)) (B : Option Addr) (d : Nat), s4 = .int .i64 i ∧ i ≤ n ∧ s3 = .slice B zs.length d ∧ Hid (Row wr w.heap.size S (.slice B zs.length d) zs) ∧ Hid (vz zs = rowT (ts.take i)) ∧ Hid (Below w.heap.size w wr)) (fun s3 s4 _ => n - (intOf s4).toNat)
  case atStart => exact ⟨0, [], none, 0, rfl, Nat.zero_le _, rfl, Lib.hid (Row.nil _ _ _), Lib.hid (by simp [vz, rowT]), Lib.hid (Below.refl _ _)⟩
  case round =>
    obtain ⟨i, zs, B, d, rfl, hin, rfl, HROW, HEQ, HB⟩ := hrel
    by_cases hlt : i < n
    · obtain ⟨b, off, x, u0, u1, u2, u3, u3n, u3c, u4, u4n, u4c, u5, u5n, u5c, rfl, hx, hb, hSb, hxk, hxn, c0, c1, c2, c3, c4, c5⟩ := (HR.out.stay (.below HB.out fun _ _ h => h) : RdF wr S A n c ts).nodeAt hlt
      have ik : (i : Int) < (n : Int) := by omega
      have ik0 : (0 : Int) ≤ (i : Int) := by omega
      have hmem := rsize_mem (List.mem_of_getElem? hx)
      have hlt1 : rsize x < N := by have := H1.out; omega
      have hlt2 : rsize x ≤ 100000 := by have := H2.out; omega
      have HC := Lib.hid (HN.out x hlt1 hlt2 wr S _ (fun b h => Nat.lt_of_lt_of_le (HS.out b h) HB.out.size) hxn)
      have HX := Lib.hid hx
      clear hx hSb hb hxk hxn hmem hlt1 hlt2
      go_wp2_with fail
      refine HC.out.mono ?_
      rintro e w2 ⟨A2, n2, d2, rfl, hr2, hB2⟩
      obtain ⟨zs', hz', hZ'⟩ := hr2.z
      have hzl := hZ'.len
      subst hzl
      have hB3 : Below wr.heap.size wr w2 := hB2
      have hrow : Row w2 w.heap.size S (.slice B zs.length d) zs := HROW.out.below hB3
      have hsub : ∀ b, b < w2.heap.size → Sn wr.heap.size S b → Sx w.heap.size S (.slice B zs.length d) b := fun b _ h =>
        sx_of (fun g hg => (HROW.out.low g hg).2) HS.out (fun g hg => (HROW.out.low g hg).1) HB.out.size b h
      have hlen : zs.length + zs'.length ≤ 900000 := by
        have e1 : (rowT (ts.take (i + 1))).length = zs.length + zs'.length := by rw [rowT_take HX.out, List.length_append, ← HEQ.out, ← hz', vz_len, vz_len]
        have e2 := rowT_len (ts.take (i + 1))
        have e3 := rsizeL_take ts (i + 1)
        have := H2.out
        omega
      have hnw : w.heap.size ≤ w2.heap.size := Nat.le_trans HB.out.size hB3.size
      have HRW := Lib.hid hrow
      have HZ1 := Lib.hid hZ'
      have HSB := Lib.hid hsub
      have HVZ := Lib.hid hz'
      have HNW := Lib.hid hnw
      have HB3 := Lib.hid hB3
      have HLEN := Lib.hid hlen
      clear hrow hZ' hsub hz' hnw hB2 hB3 hlen hr2 HC
      go_wp2_with (at_builtin; refine wpList_rows rfl (.tmp 11) (.tmp 16) rfl rfl HRW.out rfl HZ1.out HSB.out ?len HNW.out ?_)
      case len => have := HLEN.out; omega
      intro A' c' w1 hrow1 hg1 hat1
      have HR1 := Lib.hid hrow1
      have hB1 : Below w.heap.size w w1 := HB.out.trans ((HB3.out.mono HB.out.size).trans (HRW.out.grown_below hg1 HNW.out))
      have HB1 := Lib.hid hB1
      clear hrow1 hg1 hat1 hB1
      go_wp2_with fail
      go_roundw
      case rel => exact ⟨i + 1, zs ++ zs', A', c', by go_num, by omega, by rw [List.length_append], Lib.hid (by rw [List.length_append]; exact HR1.out), Lib.hid (by rw [vz_append, HEQ.out, HVZ.out, rowT_take HX.out]), HB1⟩
      case measure => simp [intOf]; omega
    · obtain rfl : i = n := by omega
      have HF : Hid (vz zs = rowT ts) := Lib.hid (by
        have := HEQ.out
        rwa [List.take_of_length_le (by rw [HL.out]; exact Nat.le_refl _)] at this)
      go_wp2_with fail
      go_ret
      refine ⟨_, _, _, rfl, ?_, HB.out⟩
      rw [← HF.out]
      exact HROW.out.rd fun _ _ h => h
end Go.Proofs.Ytcdhndhgainadaa
