/-
  Plain law: a frame with one byte changed. No program in sight.
-/
import Derived.Test.YtfbiobglckjilaaBackLaw
namespace Go.Proofs.Ytfbiobglckjilaa.F

/-- a frame's form, its sum's bytes free -/
def frame (k : Nat) (n : Nat) (s4 b : List Nat) : List Nat := 83 :: 84 :: k :: (four n ++ (s4 ++ b))

theorem wrap_frame (k : Nat) (b : List Nat) : wrap k b = frame k b.length (four (sum (k :: (four b.length ++ b)))) b := by
  simp [wrap, frame, head]

theorem frame_eq {k n : Nat} {s4 t4 b : List Nat} : frame k n s4 b = frame k n t4 b ↔ s4 = t4 := by
  constructor
  · intro h
    simp only [frame, List.cons.injEq, true_and] at h
    have h1 := List.append_cancel_left h
    exact List.append_cancel_right h1
  · intro h; rw [h]

theorem frame_shape (k n : Nat) (s4 b : List Nat) (h : s4.length = 4) : ∃ s0 s1 s2 s3, frame k n s4 b = 83 :: 84 :: k :: (n % 256) :: (n / 256 % 256) :: (n / 65536 % 256) :: (n / 16777216 % 256) :: s0 :: s1 :: s2 :: s3 :: b := by
  match s4, h with
  | [s0, s1, s2, s3], _ => exact ⟨s0, s1, s2, s3, by simp [frame, four]⟩

theorem frame_at (k n S : Nat) (l : List Nat) : ∀ i, i < 4 → (frame k n (four S) l).getD (7 + i) 0 = (four S).getD i 0 ∧ ∀ z, (frame k n (four S) l).set (7 + i) z = frame k n ((four S).set i z) l
  | 0, _ => ⟨rfl, fun _ => rfl⟩
  | 1, _ => ⟨rfl, fun _ => rfl⟩
  | 2, _ => ⟨rfl, fun _ => rfl⟩
  | 3, _ => ⟨rfl, fun _ => rfl⟩
  | i + 4, h => absurd h (by omega)

theorem verdict_frame {k n : Nat} {s4 b : List Nat} (hn : n ≤ 65536) (hb : b.length = n) (hs : s4.length = 4) : verdict (frame k n s4 b) = if four (sum (k :: (four n ++ b))) = s4 then 0 else 1 := by
  obtain ⟨s0, s1, s2, s3, e⟩ := frame_shape k n s4 b hs
  have hl : long (frame k n s4 b) = n := by rw [e]; simp [long]; omega
  have hk : kindOf (frame k n s4 b) = k := by rw [e]; simp [kindOf]
  have hbo : bodyOf (frame k n s4 b) = b := by unfold bodyOf; rw [hl, e]; simp [← hb]
  have hm : marked (frame k n s4 b) := by rw [e]; simp [marked]
  have hlen : (frame k n s4 b).length = 11 + n := by rw [e]; simp; omega
  have ht : (frame k n s4 b).take (11 + n) = frame k n s4 b := List.take_of_length_le (by omega)
  unfold verdict
  rw [if_neg (fun h => h hm), hl, if_neg (by omega), if_neg (by rw [hlen]; omega), hk, hbo, ht, wrap_frame, hb]
  by_cases h : four (sum (k :: (four n ++ b))) = s4
  · rw [if_pos h, if_pos (frame_eq.2 h)]
  · rw [if_neg h, if_neg (fun h' => h (frame_eq.1 h'))]

theorem tErr_frame {k n : Nat} {s4 b : List Nat} (hn : n ≤ 65536) (hb : b.length = n) (hs : s4.length = 4) : tErr (frame k n s4 b) = if four (sum (k :: (four n ++ b))) = s4 then 0 else 51 := by
  unfold tErr
  rw [verdict_frame hn hb hs]
  split <;> simp

theorem xor_ne {x y : Nat} (h : y ≠ 0) : x ^^^ y ≠ x := by
  intro h'
  have : x ^^^ (x ^^^ y) = x ^^^ x := by rw [h']
  rw [← Nat.xor_assoc, Nat.xor_self, Nat.zero_xor] at this
  exact h this
theorem xor_byte {x y : Nat} (hx : x < 256) (hy : y < 256) : x ^^^ y < 256 := Nat.xor_lt_two_pow (n := 8) hx hy

/-- ONE BYTE CHANGED: the answer -/
theorem byte_law {k : Nat} {l : List Nat} {p y : Nat} (hk : k < 256) (hl : ∀ x ∈ l, x < 256) (hn : l.length ≤ 65536) (hp : p = 2 ∨ (7 ≤ p ∧ p < 11 + l.length)) (hy : y < 256) :
    tErr ((wrap k l).set p ((wrap k l).getD p 0 ^^^ y)) = if y = 0 then 0 else 51 := by
  obtain ⟨S, hS⟩ : ∃ S, S = sum (k :: (four l.length ++ l)) := ⟨_, rfl⟩
  have hS32 : S < 4294967296 := by rw [hS]; exact sum_lt
  have hw : wrap k l = frame k l.length (four S) l := by rw [wrap_frame, ← hS]
  have hfb : ∀ x ∈ four l.length, x < 256 := four_byte _
  rw [hw]
  rcases hp with rfl | ⟨h7, hlt⟩
  · have e1 : (frame k l.length (four S) l).getD 2 0 = k := by simp [frame]
    have e2 : ∀ z, (frame k l.length (four S) l).set 2 z = frame z l.length (four S) l := fun z => by simp [frame]
    rw [e1, e2, tErr_frame hn rfl (four_len _)]
    by_cases h0 : y = 0
    · subst h0
      rw [if_pos rfl, Nat.xor_zero, ← hS, if_pos rfl]
    · rw [if_neg h0, if_neg]
      intro h
      have hs := four_inj sum_lt hS32 h
      rw [hS] at hs
      have hfl : ∀ x ∈ four l.length ++ l, x < 256 := by
        intro x hx
        rcases List.mem_append.1 hx with h1 | h1
        · exact hfb x h1
        · exact hl x h1
      exact xor_ne h0 (sum_change (a := []) (by simp) hfl (xor_byte hk hy) hk hs)
  · by_cases h11 : p < 11
    · have e7 : 7 + (p - 7) = p := by omega
      obtain ⟨e1, e2⟩ := frame_at k l.length S l (p - 7) (by omega)
      rw [e7] at e1 e2
      rw [e1, e2, tErr_frame hn rfl (by rw [List.length_set]; rfl), ← hS]
      have hlt4 : p - 7 < (four S).length := by rw [four_len]; omega
      by_cases h0 : y = 0
      · subst h0
        rw [if_pos rfl, if_pos]
        rw [Nat.xor_zero, List.getD_eq_getElem?_getD, List.getElem?_eq_getElem hlt4]
        simp
      · rw [if_neg h0, if_neg]
        intro h
        have hg : (four S).getD (p - 7) 0 = ((four S).set (p - 7) ((four S).getD (p - 7) 0 ^^^ y)).getD (p - 7) 0 := by rw [← h]
        have hg2 : ((four S).set (p - 7) ((four S).getD (p - 7) 0 ^^^ y)).getD (p - 7) 0 = (four S).getD (p - 7) 0 ^^^ y := by
          rw [List.getD_eq_getElem?_getD, List.getElem?_set_self hlt4]; rfl
        rw [hg2] at hg
        exact xor_ne h0 hg.symm
    · obtain ⟨j, rfl⟩ : ∃ j, p = 11 + j := ⟨p - 11, by omega⟩
      have hj : j < l.length := by omega
      have e1 : (frame k l.length (four S) l).getD (11 + j) 0 = l.getD j 0 := by
        rw [show 11 + j = j + 11 by omega]; simp [frame, four]
      have e2 : ∀ z, (frame k l.length (four S) l).set (11 + j) z = frame k l.length (four S) (l.set j z) := fun z => by
        rw [show 11 + j = j + 11 by omega]; simp [frame, four]
      rw [e1, e2, tErr_frame hn (by simp) (four_len _)]
      have hgd : l.getD j 0 = l[j] := by rw [List.getD_eq_getElem?_getD, List.getElem?_eq_getElem hj]; rfl
      by_cases h0 : y = 0
      · subst h0
        rw [if_pos rfl, Nat.xor_zero, hgd, List.set_getElem_self, ← hS, if_pos rfl]
      · rw [if_neg h0, if_neg]
        intro h
        have hs := four_inj sum_lt hS32 h
        rw [hS] at hs
        have hset : l.set j (l.getD j 0 ^^^ y) = l.take j ++ (l.getD j 0 ^^^ y) :: l.drop (j + 1) := by
          rw [List.set_eq_take_append_cons_drop, if_pos hj]
        have hls : l = l.take j ++ l[j] :: l.drop (j + 1) := by
          rw [List.getElem_cons_drop, List.take_append_drop]
        rw [hset] at hs
        have hs2 : sum ((k :: (four l.length ++ l.take j)) ++ (l.getD j 0 ^^^ y) :: l.drop (j + 1)) = sum ((k :: (four l.length ++ l.take j)) ++ l[j] :: l.drop (j + 1)) := by
          have : (k :: (four l.length ++ l.take j)) ++ l[j] :: l.drop (j + 1) = k :: (four l.length ++ l) := by
            conv => rhs; rw [hls]
            simp
          rw [this, ← hs]
          simp
        have hx : l[j] < 256 := hl _ (List.getElem_mem hj)
        have := sum_change (by
          intro x hx
          rcases List.mem_cons.1 hx with rfl | hx
          · exact hk
          · rcases List.mem_append.1 hx with h1 | h1
            · exact hfb x h1
            · exact hl x (List.mem_of_mem_take h1)) (fun x hx => hl x (List.mem_of_mem_drop hx)) (xor_byte (by rw [hgd]; exact hx) hy) hx hs2
        rw [hgd] at this
        exact xor_ne h0 this
end Go.Proofs.Ytfbiobglckjilaa.F
