/-
  Plain laws of layer 5 (frame): the sum (CRC-32C) and frames. No program in sight.
-/
namespace Go.Proofs.Ytfbiobglckjilaa.F

def poly : Nat := 2197175160

def bit (s : Nat) : Nat := if s % 2 = 1 then (s / 2) ^^^ poly else s / 2
def bits8 (s : Nat) : Nat := bit (bit (bit (bit (bit (bit (bit (bit s)))))))
def step (s c : Nat) : Nat := bits8 (s ^^^ c)
def crc (s : Nat) (l : List Nat) : Nat := l.foldl step s
def sum (l : List Nat) : Nat := 4294967295 - crc 4294967295 l

theorem xor_lt {a b : Nat} (ha : a < 4294967296) (hb : b < 4294967296) : a ^^^ b < 4294967296 := Nat.xor_lt_two_pow (n := 32) ha hb

theorem bit_lt {s : Nat} (h : s < 4294967296) : bit s < 4294967296 := by
  unfold bit
  split
  · exact xor_lt (by omega) (by unfold poly; omega)
  · omega

theorem xor_cancel_right {a b c : Nat} (h : a ^^^ c = b ^^^ c) : a = b := by
  have := congrArg (· ^^^ c) h
  simpa [Nat.xor_assoc] using this

theorem xor_cancel_left {a b c : Nat} (h : c ^^^ a = c ^^^ b) : a = b := by
  rw [Nat.xor_comm c a, Nat.xor_comm c b] at h
  exact xor_cancel_right h

theorem half_top {s : Nat} (h : s < 4294967296) : (s / 2).testBit 31 = false := Nat.testBit_lt_two_pow (by omega)
theorem poly_top : poly.testBit 31 = true := by decide

theorem bit_inj {s t : Nat} (hs : s < 4294967296) (ht : t < 4294967296) (h : bit s = bit t) : s = t := by
  have hp := congrArg (Nat.testBit · 31) h
  unfold bit at h hp
  by_cases h1 : s % 2 = 1 <;> by_cases h2 : t % 2 = 1
  · rw [if_pos h1, if_pos h2] at h
    have := xor_cancel_right h
    omega
  · simp only [if_pos h1, if_neg h2, Nat.testBit_xor, half_top hs, half_top ht, poly_top] at hp
    cases hp
  · simp only [if_neg h1, if_pos h2, Nat.testBit_xor, half_top hs, half_top ht, poly_top] at hp
    cases hp
  · rw [if_neg h1, if_neg h2] at h
    omega

theorem bits8_lt {s : Nat} (h : s < 4294967296) : bits8 s < 4294967296 := by
  unfold bits8
  iterate 8 (apply bit_lt)
  exact h

theorem bits8_inj {s t : Nat} (hs : s < 4294967296) (ht : t < 4294967296) (h : bits8 s = bits8 t) : s = t := by
  unfold bits8 at h
  have a1 := bit_lt hs
  have a2 := bit_lt a1
  have a3 := bit_lt a2
  have a4 := bit_lt a3
  have a5 := bit_lt a4
  have a6 := bit_lt a5
  have a7 := bit_lt a6
  have b1 := bit_lt ht
  have b2 := bit_lt b1
  have b3 := bit_lt b2
  have b4 := bit_lt b3
  have b5 := bit_lt b4
  have b6 := bit_lt b5
  have b7 := bit_lt b6
  exact bit_inj hs ht (bit_inj a1 b1 (bit_inj a2 b2 (bit_inj a3 b3 (bit_inj a4 b4 (bit_inj a5 b5 (bit_inj a6 b6 (bit_inj a7 b7 h)))))))

theorem step_lt {s c : Nat} (h : s < 4294967296) (hc : c < 256) : step s c < 4294967296 := bits8_lt (xor_lt h (by omega))

theorem crc_lt : ∀ (l : List Nat) {s : Nat}, s < 4294967296 → (∀ x ∈ l, x < 256) → crc s l < 4294967296
  | [], _, h, _ => h
  | c :: l, _, h, hl => crc_lt l (step_lt h (hl c (by simp))) (fun x hx => hl x (List.mem_cons_of_mem _ hx))

theorem crc_inj : ∀ (l : List Nat) {s t : Nat}, s < 4294967296 → t < 4294967296 → (∀ x ∈ l, x < 256) → crc s l = crc t l → s = t
  | [], _, _, _, _, _, h => h
  | c :: l, s, t, hs, ht, hl, h => by
    have hc := hl c (by simp)
    have := crc_inj l (step_lt hs hc) (step_lt ht hc) (fun x hx => hl x (List.mem_cons_of_mem _ hx)) h
    exact xor_cancel_right (bits8_inj (xor_lt hs (by omega)) (xor_lt ht (by omega)) this)

theorem sum_lt {l : List Nat} : sum l < 4294967296 := by unfold sum; omega

theorem sum_change {a b : List Nat} {x y : Nat} (ha : ∀ z ∈ a, z < 256) (hb : ∀ z ∈ b, z < 256) (hx : x < 256) (hy : y < 256) (h : sum (a ++ x :: b) = sum (a ++ y :: b)) : x = y := by
  have h0 : (4294967295 : Nat) < 4294967296 := by omega
  have ca := crc_lt a h0 ha
  have e1 : ∀ z, crc 4294967295 (a ++ z :: b) = crc (step (crc 4294967295 a) z) b := fun z => by simp [crc, List.foldl_append]
  have l1 := crc_lt b (step_lt ca hx) hb
  have l2 := crc_lt b (step_lt ca hy) hb
  unfold sum at h
  rw [e1, e1] at h
  have := crc_inj b (step_lt ca hx) (step_lt ca hy) hb (by omega)
  exact xor_cancel_left (bits8_inj (xor_lt ca (by omega)) (xor_lt ca (by omega)) this)

theorem sum_check : sum [49, 50, 51, 52, 53, 54, 55, 56, 57] = 3808858755 := by decide +kernel

/-- four bytes, the lowest first -/
def four (n : Nat) : List Nat := [n % 256, n / 256 % 256, n / 65536 % 256, n / 16777216 % 256]
theorem four_byte (n : Nat) : ∀ x ∈ four n, x < 256 := by
  intro x hx
  simp [four] at hx
  omega
theorem four_len (n : Nat) : (four n).length = 4 := rfl

def head (kind : Nat) (body : List Nat) : List Nat := kind :: four body.length
def wrap (kind : Nat) (body : List Nat) : List Nat := [83, 84] ++ (head kind body ++ (four (sum (head kind body ++ body)) ++ body))
theorem wrap_len (kind : Nat) (body : List Nat) : (wrap kind body).length = 11 + body.length := by simp [wrap, head, four]; omega
theorem wrap_byte {kind : Nat} {body : List Nat} (hk : kind < 256) (hb : ∀ x ∈ body, x < 256) : ∀ x ∈ wrap kind body, x < 256 := by
  intro x hx
  simp only [wrap, head, List.mem_append, List.mem_cons, List.not_mem_nil, or_false] at hx
  rcases hx with (rfl | rfl) | (rfl | hx) | hx | hx
  · omega
  · omega
  · omega
  · exact four_byte _ x hx
  · exact four_byte _ x hx
  · exact hb x hx

end Go.Proofs.Ytfbiobglckjilaa.F
