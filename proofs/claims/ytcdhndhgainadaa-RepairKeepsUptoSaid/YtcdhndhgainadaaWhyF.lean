/-
  The contract of why.
-/
import Derived.Test.YtcdhndhgainadaaTreeLaw
import Derived.Test.YtcdhndhgainadaaAllowsF
namespace Go.Proofs.Ytcdhndhgainadaa
open Go Go.RowKit
set_option linter.unusedVariables false
set_option linter.unusedSimpArgs false

theorem ret_str {a b : ByteArray} (h : a = b) : Ending.returned (.string a) = .returned (.string b) := by rw [h]
theorem bne_t {α : Type} [BEq α] {a b : α} (h : (a == b) = true) : (a != b) = false := by simp [bne, h]
theorem bne_f {α : Type} [BEq α] {a b : α} (h : (a == b) = false) : (a != b) = true := by simp [bne, h]

set_option maxRecDepth 100000 in
set_option maxHeartbeats 4000000 in
theorem why_any (n r : Int) (k p : ByteArray) (a0 : Value) (TA A : Option Addr) (tn tc m c : Nat) (root : Bool) (hp : (p.toList == []) = root) (w : World) :
    Calls Try.prog 45 #[.agg #[.int .i64 n, .int .i64 r, .string k, a0, .slice TA tn tc, .slice A m c], .string p] w fun e w' => e = .returned (.string (wy root (kd p) (kd k) tn m).str) ∧ Below w.heap.size w w' := by
  have HC := Lib.hid (fun w1 => class_any k w1)
  have HA := Lib.hid (fun w1 => allows_any p k w1)
  have HD := Lib.hid (is_doc k)
  generalize kd k = K at *
  generalize kd p = P at *
  unfold cls at HC
  go_enter Try.func45, Try.ntmps45
  go_wp2_with fail
  refine (HC.out _).mono ?_
  rintro e w' ⟨rfl, hB⟩
  have hX := (BoxN.made w #[.int .i64 n, .int .i64 r, .string k, a0, .slice TA tn tc, .slice A m c] 31).below hB (by simp)
  have hF : Below w.heap.size w w' := ((Below.refl _ w).alloc (Nat.le_refl _) _).trans (hB.mono (by simp))
  have c2 : w'.cell? ⟨w.heap.size, 2, none⟩ = some (.string k) := hX.cell (j := 2) rfl
  have c4 : w'.cell? ⟨w.heap.size, 4, none⟩ = some (.slice TA tn tc) := hX.cell (j := 4) rfl
  have c5 : w'.cell? ⟨w.heap.size, 5, none⟩ = some (.slice A m c) := hX.cell (j := 5) rfl
  have hlt : w.heap.size < w'.heap.size := hX.lt
  have hne : ¬ w.heap.size = w'.heap.size := by omega
  have HX := Lib.hid hX
  have HF := Lib.hid hF
  clear hX hF hB HC
  cases root with
  | true =>
    have hpn := bne_t hp
    cases hbd : (K == Kd.doc) with
    | false =>
      have hd : (k.toList == [100, 111, 99]) = false := by rw [HD.out, hbd]
      have hdn := bne_f hd
      have hK : ¬ K = Kd.doc := by simpa using hbd
      go_wp2_with fail
      go_ret
      refine ⟨ret_str (by simp [wy, Wy.str, hK]), ?_⟩
      have hF := HF.out
      repeat (first | exact hF | refine Below.alloc ?_ (by first | exact hF.size | simp) _)
    | true =>
      have hd : (k.toList == [100, 111, 99]) = true := by rw [HD.out, hbd]
      have hdn := bne_t hd
      obtain rfl : K = Kd.doc := by simpa using hbd
      have hbh : Kd.holds Kd.doc = false := rfl
      have hbn : Kd.needs Kd.doc = false := rfl
      have hbk : Kd.known Kd.doc = true := rfl
      simp only [hbh, hbn, hbk]
      by_cases ht : 0 < tn
      · have hti : (0 : Int) < (tn : Int) := by omega
        go_wp2_with fail
        go_ret
        refine ⟨ret_str (by simp [wy, Wy.str, ht, hbk, hbh, hbn]), ?_⟩
        have hF := HF.out
        repeat (first | exact hF | refine Below.alloc ?_ (by first | exact hF.size | simp) _)
      · obtain rfl : tn = 0 := by omega
        go_wp2_with fail
        go_ret
        refine ⟨ret_str (by simp [wy, Wy.str, hbk, hbh, hbn]), ?_⟩
        have hF := HF.out
        repeat (first | exact hF | refine Below.alloc ?_ (by first | exact hF.size | simp) _)
  | false =>
    have hpn := bne_f hp
    cases hbk : K.known with
    | false =>
      clear HA
      go_wp2_with fail
      go_ret
      refine ⟨ret_str (by simp [wy, Wy.str, hbk]), ?_⟩
      have hF := HF.out
      repeat (first | exact hF | refine Below.alloc ?_ (by first | exact hF.size | simp) _)
    | true =>
      go_wp2_with fail
      refine (HA.out _).mono ?_
      rintro e w2 ⟨rfl, hB⟩
      have hY := (BoxN.made w' #[.string K.under, .bool K.needs, .bool K.holds] 44).below hB (by simp)
      have hX := (HX.out.alloc (.cells #[.string K.under, .bool K.needs, .bool K.holds] 44)).below hB (by have := HX.out.lt; simp; omega)
      have hF : Below w.heap.size w w2 := (HF.out.alloc HF.out.size _).trans (hB.mono (by have := HF.out.size; simp; omega))
      clear c2 c4 c5 hne
      have c4 : w2.cell? ⟨w.heap.size, 4, none⟩ = some (.slice TA tn tc) := hX.cell (j := 4) rfl
      have c5 : w2.cell? ⟨w.heap.size, 5, none⟩ = some (.slice A m c) := hX.cell (j := 5) rfl
      have y1 : w2.cell? ⟨w'.heap.size, 1, none⟩ = some (.bool K.needs) := hY.cell (j := 1) rfl
      have y2 : w2.cell? ⟨w'.heap.size, 2, none⟩ = some (.bool K.holds) := hY.cell (j := 2) rfl
      clear HX HF HA hX hY hB
      have HF := Lib.hid hF
      clear hF
      cases hba : P.allows K with
      | false =>
        go_wp2_with fail
        go_ret
        refine ⟨ret_str (by simp [wy, Wy.str, hbk, hba]), ?_⟩
        have hF := HF.out
        repeat (first | exact hF | refine Below.alloc ?_ (by first | exact hF.size | simp) _)
      | true =>
        by_cases ht : 0 < tn
        · have hti : (0 : Int) < (tn : Int) := by omega
          cases hbh : K.holds with
          | false =>
            rw [hbh] at y2
            go_wp2_with fail
            go_ret
            refine ⟨ret_str (by simp [wy, Wy.str, hbk, hba, ht, hbh]), ?_⟩
            have hF := HF.out
            repeat (first | exact hF | refine Below.alloc ?_ (by first | exact hF.size | simp) _)
          | true =>
            rw [hbh] at y2
            cases hbn : K.needs with
            | false =>
              rw [hbn] at y1
              go_wp2_with fail
              go_ret
              refine ⟨ret_str (by simp [wy, Wy.str, hbk, hba, ht, hbh, hbn]), ?_⟩
              have hF := HF.out
              repeat (first | exact hF | refine Below.alloc ?_ (by first | exact hF.size | simp) _)
            | true =>
              rw [hbn] at y1
              by_cases hm : m = 0
              · subst hm
                go_wp2_with fail
                go_ret
                refine ⟨ret_str (by simp [wy, Wy.str, hbk, hba, ht, hbh, hbn]), ?_⟩
                have hF := HF.out
                repeat (first | exact hF | refine Below.alloc ?_ (by first | exact hF.size | simp) _)
              · have hmi : ¬ (m : Int) = 0 := by omega
                go_wp2_with fail
                go_ret
                refine ⟨ret_str (by simp [wy, Wy.str, hbk, hba, ht, hbh, hbn, hm]), ?_⟩
                have hF := HF.out
                repeat (first | exact hF | refine Below.alloc ?_ (by first | exact hF.size | simp) _)
        · obtain rfl : tn = 0 := by omega
          cases hbn : K.needs with
          | false =>
            rw [hbn] at y1
            go_wp2_with fail
            go_ret
            refine ⟨ret_str (by simp [wy, Wy.str, hbk, hba, hbn]), ?_⟩
            have hF := HF.out
            repeat (first | exact hF | refine Below.alloc ?_ (by first | exact hF.size | simp) _)
          | true =>
            rw [hbn] at y1
            by_cases hm : m = 0
            · subst hm
              go_wp2_with fail
              go_ret
              refine ⟨ret_str (by simp [wy, Wy.str, hbk, hba, hbn]), ?_⟩
              have hF := HF.out
              repeat (first | exact hF | refine Below.alloc ?_ (by first | exact hF.size | simp) _)
            · have hmi : ¬ (m : Int) = 0 := by omega
              go_wp2_with fail
              go_ret
              refine ⟨ret_str (by simp [wy, Wy.str, hbk, hba, hbn, hm]), ?_⟩
              have hF := HF.out
              repeat (first | exact hF | refine Below.alloc ?_ (by first | exact hF.size | simp) _)
end Go.Proofs.Ytcdhndhgainadaa
