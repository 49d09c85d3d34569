/-
  THE WALK OF ColumnTakes.
-/
import Derived.Test.YtokpcpopibpebaaOpenCol
import Derived.Test.YtokpcpopibpebaaAlive4F
import Derived.Test.YtokpcpopibpebaaRTakeDeltasF
import Derived.Test.YtokpcpopibpebaaRTakeBoolsF
namespace Go.Proofs.Ytokpcpopibpebaa
open Go Go.RowKit
set_option linter.unusedVariables false
set_option linter.unusedSimpArgs false

section
variable {α : Type}
def aL (arg : Bool) (r : Option (List α × Nat)) : List α := match arg, r with | false, some (l, _) => l | _, _ => []
def aK (arg : Bool) (r : Option (List α × Nat)) : Nat := match arg, r with | false, some (_, k) => k | _, _ => 0
def aE (arg : Bool) (r : Option (List α × Nat)) : Int := match arg, r with | true, _ => 1 | false, none => 41 | false, some _ => 0
theorem Answer.flat {e : TypeId} {V : α → Value} {arg : Bool} {r : Option (List α × Nat)} {w : World} {en : Ending} {w' : World} (h : Answer e V arg r w en w') :
    ∃ A c, en = .returned (.tuple #[.slice A (aL arg r).length c, .int .i64 (aK arg r : Int), .int .i64 (aE arg r)]) ∧ w'.ownsRow w.heap.size e 1 (.slice A (aL arg r).length c) (aL arg r).length ((aL arg r).map V) ∧ Below w.heap.size w w' := by
  obtain ⟨h1, h2⟩ := h.cases
  rcases h2 with ⟨rfl, rfl⟩ | ⟨rfl, rfl, rfl⟩ | ⟨rfl, l, k, A, c, rfl, rfl, h3⟩
  · exact ⟨none, 0, rfl, World.ownsRow_nil _ _ _ _, h1⟩
  · exact ⟨none, 0, rfl, World.ownsRow_nil _ _ _ _, h1⟩
  · exact ⟨A, c, rfl, h3, h1⟩
end
theorem taken_short {b : List Nat} {n : Nat} {arg : Bool} {r : Option (List Int × Nat)} (h : ∀ l k, r = some (l, k) → arg = false → l.length ≤ 65536) : (aL arg r).length ≤ 65536 := by
  match arg, r, h with
  | true, _, _ => simp [aL]
  | false, none, _ => simp [aL]
  | false, some (l, k), h => exact h l k rfl rfl
theorem badN_le {n : Int} (h : badN n = false) : n.toNat ≤ 65536 := by unfold badN at h; simp at h; omega
theorem shortI {b : List Nat} (hb : ∀ x ∈ b, x < 256) (n : Int) : (aL (badN n) (takenI b n.toNat)).length ≤ 65536 := by
  cases hn : badN n with
  | true => simp [aL]
  | false =>
    have := badN_le hn
    unfold takenI
    cases hp : parse b n.toNat none with
    | none => simp [aL]
    | some ps => have := (parse_some hb hp).2.1; simp [aL]; omega
theorem shortD {b : List Nat} (hb : ∀ x ∈ b, x < 256) (n : Int) : (aL (badN n) (takenD b n.toNat)).length ≤ 65536 := by
  cases hn : badN n with
  | true => simp [aL]
  | false =>
    have := badN_le hn
    unfold takenD
    cases hp : parse b n.toNat none with
    | none => simp [aL]
    | some ps => have := (parse_some hb hp).2.1; simp [aL, undelta_len]; omega
theorem shortB {b : List Nat} (hb : ∀ x ∈ b, x < 256) (n : Int) : (aL (badN n) (takenB b n.toNat)).length ≤ 65536 := by
  cases hn : badN n with
  | true => simp [aL]
  | false =>
    have := badN_le hn
    unfold takenB
    cases hp : parseB b n.toNat true with
    | none => simp [aL]
    | some ks => have := (parseB_back hb hp).2.1; simp [aL]; omega
end Go.Proofs.Ytokpcpopibpebaa
namespace Go.Proofs.Ytokpcpopibpebaa.columnTakes
open Go Go.RowKit
set_option linter.unusedVariables false
set_option linter.unusedSimpArgs false

set_option maxRecDepth 100000 in
set_option maxHeartbeats 4000000 in
theorem walk (W : World) (A : Option Addr) (len c : Nat) (b : List Nat) (k : Bytes W A len c b) (n : Int) (hn1 : -9223372036854775808 ≤ n) (hn2 : n < 9223372036854775808) :
    Calls Try.prog 12 #[.slice A len c, .int .i64 n] W fun e w' => e = .returned (.bool true) ∧ Below W.heap.size W w' := by
  have K := Lib.hid k
  have HN := Lib.hid (And.intro hn1 hn2)
  clear k hn1 hn2
  by_cases h1 : 2000 < len
  · go_enter Try.func12, Try.ntmps12
    go_wp2_with fail
    refine (alive4_any W).mono ?_
    rintro e w1 ⟨rfl, hB1⟩
    have HB1 := Lib.hid hB1
    clear hB1
    go_wp2_with fail
    go_ret
    exact ⟨rfl, HB1.out⟩
  · have hR : Hid (∀ w, Below W.heap.size W w → Rd w w.heap.size 1 A len (by8 b)) := Lib.hid fun w hw => (K.out.rd.below hw).more hw.size
    have X0 := Lib.hid (Below.refl W.heap.size W)
    go_enter Try.func12, Try.ntmps12
    go_wp2_with fail
    refine (takeruns_any A len c b n HN.out.1 HN.out.2 W (hR.out W X0.out) K.out.lt (by omega) K.out.cap K.out.max).mono ?_
    intro e w1 hA
    obtain ⟨A1, c1, rfl, own1, hB1⟩ := hA.flat
    have X1 := Lib.hid (X0.out.trans (hB1.mono X0.out.size))
    have R1 := Lib.hid (Rd.of_own own1)
    clear own1 hB1 hA X0
    go_wp2_with fail
    refine (rtakeruns_any A len c b n HN.out.1 HN.out.2 w1 (hR.out w1 X1.out) K.out.lt (by omega) K.out.cap K.out.max).mono ?_
    intro e w2 hA
    obtain ⟨A2, c2, rfl, own2, hB2⟩ := hA.flat
    have X2 := Lib.hid (X1.out.trans (hB2.mono X1.out.size))
    have R2 := Lib.hid (Rd.of_own own2)
    have R1n := Lib.hid ((R1.out.below hB2).more hB2.size)
    clear R1
    have R1 := R1n
    clear R1n
    clear own2 hB2 hA X1
    go_wp2_with fail
    refine (takedeltas_any A len c b n HN.out.1 HN.out.2 w2 (hR.out w2 X2.out) K.out.lt (by omega) K.out.cap K.out.max).mono ?_
    intro e w3 hA
    obtain ⟨A3, c3, rfl, own3, hB3⟩ := hA.flat
    have X3 := Lib.hid (X2.out.trans (hB3.mono X2.out.size))
    have R3 := Lib.hid (Rd.of_own own3)
    have R1n := Lib.hid ((R1.out.below hB3).more hB3.size)
    clear R1
    have R1 := R1n
    clear R1n
    have R2n := Lib.hid ((R2.out.below hB3).more hB3.size)
    clear R2
    have R2 := R2n
    clear R2n
    clear own3 hB3 hA X2
    go_wp2_with fail
    refine (rtakedeltas_any A len c b n HN.out.1 HN.out.2 w3 (hR.out w3 X3.out) K.out.lt (by omega) K.out.cap K.out.max).mono ?_
    intro e w4 hA
    obtain ⟨A4, c4, rfl, own4, hB4⟩ := hA.flat
    have X4 := Lib.hid (X3.out.trans (hB4.mono X3.out.size))
    have R4 := Lib.hid (Rd.of_own own4)
    have R1n := Lib.hid ((R1.out.below hB4).more hB4.size)
    clear R1
    have R1 := R1n
    clear R1n
    have R2n := Lib.hid ((R2.out.below hB4).more hB4.size)
    clear R2
    have R2 := R2n
    clear R2n
    have R3n := Lib.hid ((R3.out.below hB4).more hB4.size)
    clear R3
    have R3 := R3n
    clear R3n
    clear own4 hB4 hA X3
    go_wp2_with fail
    refine (takebools_any A len c b n HN.out.1 HN.out.2 w4 (hR.out w4 X4.out) K.out.lt (by omega) K.out.cap K.out.max).mono ?_
    intro e w5 hA
    obtain ⟨A5, c5, rfl, own5, hB5⟩ := hA.flat
    have X5 := Lib.hid (X4.out.trans (hB5.mono X4.out.size))
    have R5 := Lib.hid (Rd.of_own own5)
    have R1n := Lib.hid ((R1.out.below hB5).more hB5.size)
    clear R1
    have R1 := R1n
    clear R1n
    have R2n := Lib.hid ((R2.out.below hB5).more hB5.size)
    clear R2
    have R2 := R2n
    clear R2n
    have R3n := Lib.hid ((R3.out.below hB5).more hB5.size)
    clear R3
    have R3 := R3n
    clear R3n
    have R4n := Lib.hid ((R4.out.below hB5).more hB5.size)
    clear R4
    have R4 := R4n
    clear R4n
    clear own5 hB5 hA X4
    go_wp2_with fail
    refine (rtakebools_any A len c b n HN.out.1 HN.out.2 w5 (hR.out w5 X5.out) K.out.lt (by omega) K.out.cap K.out.max).mono ?_
    intro e w6 hA
    obtain ⟨A6, c6, rfl, own6, hB6⟩ := hA.flat
    have X6 := Lib.hid (X5.out.trans (hB6.mono X5.out.size))
    have R6 := Lib.hid (Rd.of_own own6)
    have R1n := Lib.hid ((R1.out.below hB6).more hB6.size)
    clear R1
    have R1 := R1n
    clear R1n
    have R2n := Lib.hid ((R2.out.below hB6).more hB6.size)
    clear R2
    have R2 := R2n
    clear R2n
    have R3n := Lib.hid ((R3.out.below hB6).more hB6.size)
    clear R3
    have R3 := R3n
    clear R3n
    have R4n := Lib.hid ((R4.out.below hB6).more hB6.size)
    clear R4
    have R4 := R4n
    clear R4n
    have R5n := Lib.hid ((R5.out.below hB6).more hB6.size)
    clear R5
    have R5 := R5n
    clear R5n
    clear own6 hB6 hA X5
    have sI := shortI K.out.lt n
    have sD := shortD K.out.lt n
    have sB := shortB K.out.lt n
    generalize aL (badN n) (takenI b n.toNat) = lI at *
    generalize aK (badN n) (takenI b n.toNat) = kI at *
    generalize aE (badN n) (takenI b n.toNat) = eI at *
    generalize aL (badN n) (takenD b n.toNat) = lD at *
    generalize aK (badN n) (takenD b n.toNat) = kD at *
    generalize aE (badN n) (takenD b n.toNat) = eD at *
    generalize aL (badN n) (takenB b n.toNat) = lB at *
    generalize aK (badN n) (takenB b n.toNat) = kB at *
    generalize aE (badN n) (takenB b n.toNat) = eB at *
    have s1 := same4_any (c := c1) (c' := c2) R1.out R2.out (by omega) (by omega)
    rw [decide_eq_true rfl] at s1
    have S1 := Lib.hid s1
    clear s1
    go_wp2_with fail
    refine S1.out.mono ?_
    rintro e w7 ⟨rfl, hB7⟩
    have s2 := same4_any (c := c3) (c' := c4) (R3.out.below hB7) (R4.out.below hB7) (by omega) (by omega)
    rw [decide_eq_true rfl] at s2
    have S2 := Lib.hid s2
    have X7 := Lib.hid (X6.out.trans (hB7.mono X6.out.size))
    have R5n := Lib.hid (R5.out.below hB7)
    have R6n := Lib.hid (R6.out.below hB7)
    have HL7 := Lib.hid hB7.size
    clear s2 hB7 S1 X6 R5 R6
    go_wp2_with fail
    refine S2.out.mono ?_
    rintro e w8 ⟨rfl, hB8⟩
    have s3 := sameB_any (c := c5) (c' := c6) (R5n.out.below (hB8.mono HL7.out)) (R6n.out.below (hB8.mono HL7.out)) (by omega) (by omega)
    rw [decide_eq_true rfl] at s3
    have S3 := Lib.hid s3
    have X8 := Lib.hid (X7.out.trans (hB8.mono X7.out.size))
    clear s3 hB8 S2 X7
    go_wp2_with fail
    refine S3.out.mono ?_
    rintro e w9 ⟨rfl, hB9⟩
    have X9 := Lib.hid (X8.out.trans (hB9.mono X8.out.size))
    clear hB9 S3 X8
    go_wp2_with fail
    refine (alive4_any w9).mono ?_
    rintro e w10 ⟨rfl, hB10⟩
    have X10 := Lib.hid (X9.out.trans (hB10.mono X9.out.size))
    have g1 : ((kI : Int) == (kI : Int)) = true := by simp
    have g2 : ((kD : Int) == (kD : Int)) = true := by simp
    have g3 : ((kB : Int) == (kB : Int)) = true := by simp
    have g4 : (eI == eI) = true := by simp
    have g5 : (eD == eD) = true := by simp
    have g6 : (eB == eB) = true := by simp
    clear hB10 X9
    go_wp2_with fail
    go_ret
    exact ⟨rfl, X10.out⟩
end Go.Proofs.Ytokpcpopibpebaa.columnTakes
