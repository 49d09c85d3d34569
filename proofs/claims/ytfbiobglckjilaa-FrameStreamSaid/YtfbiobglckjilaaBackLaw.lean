/-
  Plain laws: Take of a frame with more behind it, and of a frame cut short. No program in sight.
-/
import Derived.Test.YtfbiobglckjilaaTakeLaw
namespace Go.Proofs.Ytfbiobglckjilaa.F

theorem wrap_shape (k : Nat) (b : List Nat) : ∃ s0 s1 s2 s3, wrap k b = 83 :: 84 :: k :: (b.length % 256) :: (b.length / 256 % 256) :: (b.length / 65536 % 256) :: (b.length / 16777216 % 256) :: s0 :: s1 :: s2 :: s3 :: b := by
  obtain ⟨s, hs⟩ : ∃ s, s = sum (head k b ++ b) := ⟨_, rfl⟩
  refine ⟨s % 256, s / 256 % 256, s / 65536 % 256, s / 16777216 % 256, ?_⟩
  unfold wrap
  rw [← hs]
  simp [head, four]

theorem long_wrap {k : Nat} {b more : List Nat} (h : b.length < 4294967296) : long (wrap k b ++ more) = b.length := by
  obtain ⟨s0, s1, s2, s3, e⟩ := wrap_shape k b
  rw [e]
  simp [long]
  omega
theorem kind_wrap {k : Nat} {b more : List Nat} : kindOf (wrap k b ++ more) = k := by
  obtain ⟨s0, s1, s2, s3, e⟩ := wrap_shape k b
  rw [e]
  simp [kindOf]
theorem body_wrap {k : Nat} {b more : List Nat} (h : b.length < 4294967296) : bodyOf (wrap k b ++ more) = b := by
  unfold bodyOf
  rw [long_wrap h]
  obtain ⟨s0, s1, s2, s3, e⟩ := wrap_shape k b
  rw [e]
  simp
theorem marked_wrap {k : Nat} {b more : List Nat} : marked (wrap k b ++ more) := by
  obtain ⟨s0, s1, s2, s3, e⟩ := wrap_shape k b
  rw [e]
  simp [marked]

/-- TAKE OF A FRAME WITH MORE BEHIND IT -/
theorem verdict_wrap {k : Nat} {b more : List Nat} (h : b.length ≤ 65536) : verdict (wrap k b ++ more) = 0 := by
  have h4 : b.length < 4294967296 := by omega
  unfold verdict
  rw [if_neg (fun hn => hn marked_wrap), long_wrap h4, if_neg (by omega), if_neg (by rw [List.length_append, wrap_len]; omega), kind_wrap, body_wrap h4]
  rw [if_pos]
  rw [← wrap_len k b, List.take_left']
  rfl

theorem getD_take_le (l : List Nat) (m i : Nat) : (l.take m).getD i 0 ≤ l.getD i 0 := by
  simp only [List.getD_eq_getElem?_getD, List.getElem?_take]
  split
  · exact Nat.le_refl _
  · simp
theorem getD_take (l : List Nat) {m i : Nat} (h : i < m) : (l.take m).getD i 0 = l.getD i 0 := by
  simp [List.getD_eq_getElem?_getD, h]

theorem marked_cut (k : Nat) (b : List Nat) (m : Nat) (hlen : ((wrap k b).take m).length = m) : marked ((wrap k b).take m) := by
  unfold marked
  rw [hlen]
  obtain ⟨s0, s1, s2, s3, e⟩ := wrap_shape k b
  rw [e]
  match m with
  | 0 => simp
  | 1 => simp
  | m + 2 => simp

/-- TAKE OF A FRAME CUT SHORT -/
theorem verdict_cut {k : Nat} {b : List Nat} {m : Nat} (h : b.length ≤ 65536) (hm : m < 11 + b.length) : verdict ((wrap k b).take m) = 2 := by
  have hl : long (wrap k b) = b.length := by
    have := long_wrap (k := k) (b := b) (more := []) (by omega)
    rwa [List.append_nil] at this
  have hlen : ((wrap k b).take m).length = m := by rw [List.length_take, wrap_len]; omega
  have hle : long ((wrap k b).take m) ≤ b.length := by
    rw [← hl]
    unfold long
    have h3 := getD_take_le (wrap k b) m 3
    have h4 := getD_take_le (wrap k b) m 4
    have h5 := getD_take_le (wrap k b) m 5
    have h6 := getD_take_le (wrap k b) m 6
    omega
  have hmk : marked ((wrap k b).take m) := marked_cut k b m hlen
  unfold verdict
  rw [if_neg (fun hn => hn hmk), if_neg (by omega)]
  rw [if_pos]
  rw [hlen]
  by_cases h7 : m < 7
  · exact .inl h7
  · right
    have : long ((wrap k b).take m) = b.length := by
      rw [← hl]
      unfold long
      rw [getD_take _ (by omega), getD_take _ (by omega), getD_take _ (by omega), getD_take _ (by omega)]
    omega
end Go.Proofs.Ytfbiobglckjilaa.F
