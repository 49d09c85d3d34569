/-
  Plain laws of Take: what the frame at the beginning of bytes is. No program in sight.
-/
import Derived.Test.YtfbiobglckjilaaCrcLaw
namespace Go.Proofs.Ytfbiobglckjilaa.F

/-- the length that stands in bytes; what lacks counts as noughts -/
def long (b : List Nat) : Nat := b.getD 3 0 + b.getD 4 0 * 256 + b.getD 5 0 * 65536 + b.getD 6 0 * 16777216
def marked (b : List Nat) : Prop := b.take 2 = [83, 84].take b.length
instance (b : List Nat) : Decidable (marked b) := by unfold marked; infer_instance
def kindOf (b : List Nat) : Nat := b.getD 2 0
def bodyOf (b : List Nat) : List Nat := (b.drop 11).take (long b)

/-- what Take answers: 0: a frame; 1: no frame; 2: too short -/
def verdict (b : List Nat) : Nat :=
  if ¬ marked b then 1
  else if 65536 < long b then 1
  else if b.length < 7 ∨ b.length < 11 + long b then 2
  else if wrap (kindOf b) (bodyOf b) = b.take (11 + long b) then 0 else 1

def tKind (b : List Nat) : Nat := if verdict b = 0 then kindOf b else 0
def tBody (b : List Nat) : List Nat := if verdict b = 0 then bodyOf b else []
def tLen (b : List Nat) : Nat := if verdict b = 0 then 11 + long b else 0
def tErr (b : List Nat) : Int := if verdict b = 0 then 0 else if verdict b = 1 then 51 else 52

theorem four_of (a b c d : Nat) (ha : a < 256) (hb : b < 256) (hc : c < 256) (hd : d < 256) : four (a + b * 256 + c * 65536 + d * 16777216) = [a, b, c, d] := by
  simp [four]; omega

def un (l : List Nat) : Nat := l.getD 0 0 + l.getD 1 0 * 256 + l.getD 2 0 * 65536 + l.getD 3 0 * 16777216
def sumBytes (l : List Nat) : List Nat := (l.drop 2).take 5 ++ l.drop 11

theorem four_inj {m n : Nat} (hm : m < 4294967296) (hn : n < 4294967296) (h : four m = four n) : m = n := by
  simp [four] at h; omega

/-- bytes, eleven at least, written out -/
theorem eleven {b : List Nat} (h : 11 ≤ b.length) : ∃ b0 b1 b2 b3 b4 b5 b6 b7 b8 b9 b10 r, b = b0 :: b1 :: b2 :: b3 :: b4 :: b5 :: b6 :: b7 :: b8 :: b9 :: b10 :: r := by
  match b, h with
  | b0 :: b1 :: b2 :: b3 :: b4 :: b5 :: b6 :: b7 :: b8 :: b9 :: b10 :: r, _ => exact ⟨b0, b1, b2, b3, b4, b5, b6, b7, b8, b9, b10, r, rfl⟩

theorem long_cons (b0 b1 b2 b3 b4 b5 b6 : Nat) (r : List Nat) : long (b0 :: b1 :: b2 :: b3 :: b4 :: b5 :: b6 :: r) = b3 + b4 * 256 + b5 * 65536 + b6 * 16777216 := by
  simp [long]
theorem un_cons (a b c d : Nat) (r : List Nat) : un (a :: b :: c :: d :: r) = a + b * 256 + c * 65536 + d * 16777216 := by simp [un]

theorem fits_core (b2 b3 b4 b5 b6 b7 b8 b9 b10 N : Nat) (t : List Nat) (h7 : b7 < 256) (h8 : b8 < 256) (h9 : b9 < 256) (h10 : b10 < 256) (hF : four N = [b3, b4, b5, b6]) (ht : t.length = N) :
    (un (b7 :: b8 :: b9 :: b10 :: t) = sum (b2 :: b3 :: b4 :: b5 :: b6 :: t)) ↔ wrap b2 t = 83 :: 84 :: b2 :: b3 :: b4 :: b5 :: b6 :: b7 :: b8 :: b9 :: b10 :: t := by
  have hh : head b2 t = [b2, b3, b4, b5, b6] := by unfold head; rw [ht, hF]
  have hw : wrap b2 t = 83 :: 84 :: b2 :: b3 :: b4 :: b5 :: b6 :: (four (sum (b2 :: b3 :: b4 :: b5 :: b6 :: t)) ++ t) := by
    unfold wrap
    rw [hh]
    simp
  rw [hw, un_cons]
  have hs : sum (b2 :: b3 :: b4 :: b5 :: b6 :: t) < 4294967296 := sum_lt
  obtain ⟨s, hs'⟩ : ∃ s, s = sum (b2 :: b3 :: b4 :: b5 :: b6 :: t) := ⟨_, rfl⟩
  rw [← hs'] at hs ⊢
  have hk := four_of b7 b8 b9 b10 h7 h8 h9 h10
  constructor
  · intro h
    rw [← h, hk]
    rfl
  · intro h
    simp only [List.cons.injEq, true_and] at h
    have h2 : four s = [b7, b8, b9, b10] := by
      have := congrArg (List.take 4) h
      simpa [four] using this
    rw [← hk] at h2
    exact (four_inj hs (by omega) h2).symm

/-- the sum fits just if the frame is what Wrap makes -/
theorem sum_fits {b : List Nat} (hb : ∀ x ∈ b, x < 256) (hm : marked b) (h : 11 + long b ≤ b.length) :
    (un ((b.take (11 + long b)).drop 7) = sum (sumBytes (b.take (11 + long b)))) ↔ wrap (kindOf b) (bodyOf b) = b.take (11 + long b) := by
  obtain ⟨b0, b1, b2, b3, b4, b5, b6, b7, b8, b9, b10, r, rfl⟩ := eleven (b := b) (by omega)
  have h3 := hb b3 (by simp)
  have h4 := hb b4 (by simp)
  have h5 := hb b5 (by simp)
  have h6 := hb b6 (by simp)
  have h7 := hb b7 (by simp)
  have h8 := hb b8 (by simp)
  have h9 := hb b9 (by simp)
  have h10 := hb b10 (by simp)
  have hF := four_of b3 b4 b5 b6 h3 h4 h5 h6
  have hL := long_cons b0 b1 b2 b3 b4 b5 b6 (b7 :: b8 :: b9 :: b10 :: r)
  have hbo : bodyOf (b0 :: b1 :: b2 :: b3 :: b4 :: b5 :: b6 :: b7 :: b8 :: b9 :: b10 :: r) = r.take (long (b0 :: b1 :: b2 :: b3 :: b4 :: b5 :: b6 :: b7 :: b8 :: b9 :: b10 :: r)) := by simp [bodyOf]
  rw [hbo]
  have hm' : b0 = 83 ∧ b1 = 84 := by
    unfold marked at hm
    simp only [List.length_cons, List.take_succ_cons, List.take_zero] at hm
    simpa using hm
  obtain ⟨N, hN⟩ : ∃ N, N = long (b0 :: b1 :: b2 :: b3 :: b4 :: b5 :: b6 :: b7 :: b8 :: b9 :: b10 :: r) := ⟨_, rfl⟩
  rw [← hN] at h hL ⊢
  rw [← hL] at hF
  have hbl : (r.take N).length = N := by simp at h ⊢; omega
  have ht : (b0 :: b1 :: b2 :: b3 :: b4 :: b5 :: b6 :: b7 :: b8 :: b9 :: b10 :: r).take (11 + N) = b0 :: b1 :: b2 :: b3 :: b4 :: b5 :: b6 :: b7 :: b8 :: b9 :: b10 :: r.take N := by
    rw [Nat.add_comm 11 N]
    simp only [List.take_succ_cons]
  rw [ht]
  have hk : kindOf (b0 :: b1 :: b2 :: b3 :: b4 :: b5 :: b6 :: b7 :: b8 :: b9 :: b10 :: r) = b2 := by simp [kindOf]
  rw [hk]
  obtain ⟨rfl, rfl⟩ := hm'
  have hsb : sumBytes (83 :: 84 :: b2 :: b3 :: b4 :: b5 :: b6 :: b7 :: b8 :: b9 :: b10 :: r.take N) = b2 :: b3 :: b4 :: b5 :: b6 :: r.take N := by simp [sumBytes]
  rw [hsb]
  simp only [List.drop_succ_cons, List.drop_zero]
  exact fits_core b2 b3 b4 b5 b6 b7 b8 b9 b10 N (r.take N) h7 h8 h9 h10 hF hbl
end Go.Proofs.Ytfbiobglckjilaa.F
