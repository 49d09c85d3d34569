/-
  Plain laws of layer 3 (varint): numbers to the base 128. No program in sight.
-/
namespace Go.Proofs.Ytokpcpopibpebaa.V

/-- N1: a number's bytes. -/
def put (n : Nat) : List Nat := if h : n < 128 then [n] else (n % 128 + 128) :: put (n / 128)
termination_by n
decreasing_by omega

theorem put_lt {n : Nat} (h : n < 128) : put n = [n] := by rw [put]; simp [h]
theorem put_ge {n : Nat} (h : 128 ≤ n) : put n = (n % 128 + 128) :: put (n / 128) := by rw [put]; simp [Nat.not_lt.2 h]

theorem put_length_pos (n : Nat) : 1 ≤ (put n).length := by
  by_cases h : n < 128
  · rw [put_lt h]; simp
  · rw [put_ge (by omega)]; simp

theorem put_byte (n : Nat) : ∀ x ∈ put n, x < 256 := by
  induction n using Nat.strongRecOn with
  | _ n ih =>
    by_cases h : n < 128
    · rw [put_lt h]; simp; omega
    · rw [put_ge (by omega)]
      intro x hx
      rcases List.mem_cons.1 hx with rfl | hx
      · omega
      · exact ih (n / 128) (by omega) x hx

theorem put_length_le (k : Nat) : ∀ n : Nat, n < 128 ^ k → 1 ≤ k → (put n).length ≤ k := by
  induction k with
  | zero => intro n _ h; omega
  | succ k ih =>
    intro n hn _
    by_cases h : n < 128
    · rw [put_lt h]; simp
    · rw [put_ge (by omega)]
      have hk : 1 ≤ k := by
        rcases Nat.eq_zero_or_pos k with rfl | hk
        · simp at hn; omega
        · exact hk
      have := ih (n / 128) (by rw [Nat.pow_succ] at hn; omega) hk
      simp; omega

theorem put_length_ten {n : Nat} (h : n < 18446744073709551616) : (put n).length ≤ 10 :=
  put_length_le 10 n (by omega) (by omega)

theorem put_length_mono : ∀ (m n : Nat), n ≤ m → (put n).length ≤ (put m).length := by
  intro m
  induction m using Nat.strongRecOn with
  | _ m ih =>
    intro n hn
    by_cases h : n < 128
    · rw [put_lt h]; exact put_length_pos m
    · rw [put_ge (by omega), put_ge (show 128 ≤ m by omega)]
      have := ih (m / 128) (by omega) (n / 128) (by omega)
      simp; omega

/-- The first number at the head of bytes: from place i on, acc having been read. -/
def takeFrom : List Nat → Nat → Nat → Option (Nat × Nat)
  | [], _, _ => none
  | c :: b, i, acc =>
    if 10 ≤ i then none
    else if i = 9 ∧ 1 < c % 128 then none
    else if c < 128 then (if 0 < i ∧ c % 128 = 0 then none else some (acc + c % 128 * 128 ^ i, i + 1))
    else takeFrom b (i + 1) (acc + c % 128 * 128 ^ i)

def take (b : List Nat) : Option (Nat × Nat) := takeFrom b 0 0

theorem pow_split (i : Nat) (m : Nat) : m % 128 * 128 ^ i + m / 128 * 128 ^ (i + 1) = m * 128 ^ i := by
  rw [Nat.pow_succ, Nat.mul_comm (128 ^ i) 128, ← Nat.mul_assoc, ← Nat.add_mul, Nat.add_comm, Nat.mul_comm (m / 128), Nat.div_add_mod]

theorem takeFrom_put (m : Nat) : ∀ (i acc : Nat) (rest : List Nat), acc + m * 128 ^ i < 18446744073709551616 → (0 < i → 0 < m) →
    takeFrom (put m ++ rest) i acc = some (acc + m * 128 ^ i, i + (put m).length) := by
  induction m using Nat.strongRecOn with
  | _ m ih =>
    intro i acc rest hlt hpos
    have hi : ¬ 10 ≤ i := by
      intro h
      have h1 : 0 < m := hpos (by omega)
      have h2 : 128 ^ 10 ≤ 128 ^ i := Nat.pow_le_pow_right (by omega) h
      have h3 : 1 * 128 ^ i ≤ m * 128 ^ i := Nat.mul_le_mul_right _ h1
      have h4 : (128 : Nat) ^ 10 = 1180591620717411303424 := by decide
      omega
    by_cases h : m < 128
    · rw [put_lt h]
      have hm : m % 128 = m := Nat.mod_eq_of_lt h
      have h9 : ¬ (i = 9 ∧ 1 < m % 128) := by
        rintro ⟨rfl, h1⟩
        have h4 : (128 : Nat) ^ 9 = 9223372036854775808 := by decide
        rw [h4] at hlt
        omega
      have h0 : ¬ (0 < i ∧ m % 128 = 0) := by
        rintro ⟨h1, h2⟩
        have := hpos h1
        omega
      rw [hm] at h9 h0
      simp only [List.singleton_append, takeFrom, if_neg hi, hm, if_neg h9, if_pos h, if_neg h0, List.length_singleton]
    · rw [put_ge (by omega)]
      have hc : (m % 128 + 128) % 128 = m % 128 := by omega
      have hd : 0 < m / 128 := by omega
      have hs := pow_split i m
      have h9 : ¬ (i = 9 ∧ 1 < (m % 128 + 128) % 128) := by
        rintro ⟨rfl, h1⟩
        have h4 : (128 : Nat) ^ 9 = 9223372036854775808 := by decide
        rw [h4] at hlt
        omega
      have hcc : ¬ (m % 128 + 128 < 128) := by omega
      rw [hc] at h9
      simp only [List.cons_append, takeFrom, hc, if_neg hi, if_neg h9, if_neg hcc, List.length_cons]
      rw [ih (m / 128) (by omega) (i + 1) (acc + m % 128 * 128 ^ i) rest (by omega) (fun _ => hd)]
      rw [Nat.add_assoc acc, hs, show i + 1 + (put (m / 128)).length = i + ((put (m / 128)).length + 1) by omega]

theorem take_put (n : Nat) (rest : List Nat) (h : n < 18446744073709551616) : take (put n ++ rest) = some (n, (put n).length) := by
  unfold take
  rw [takeFrom_put n 0 0 rest (by simpa using h) (by omega)]
  simp

theorem takeFrom_some : ∀ (b : List Nat) (i acc n k : Nat), (∀ x ∈ b, x < 256) → acc < 128 ^ i → takeFrom b i acc = some (n, k) →
    ∃ (m : Nat) (rest : List Nat), n = acc + m * 128 ^ i ∧ (0 < i → 0 < m) ∧ b = put m ++ rest ∧ k = i + (put m).length ∧ n < 18446744073709551616
  | [], i, acc, n, k, _, _, h => by simp [takeFrom] at h
  | c :: b, i, acc, n, k, hb, hacc, h => by
    rw [takeFrom] at h
    split at h
    · cases h
    rename_i hi
    split at h
    · cases h
    rename_i h9
    have hc256 : c < 256 := hb c (by simp)
    split at h
    · rename_i hc
      split at h
      · cases h
      rename_i h0
      have hcm : c % 128 = c := Nat.mod_eq_of_lt hc
      simp only [Option.some.injEq, Prod.mk.injEq] at h
      obtain ⟨rfl, rfl⟩ := h
      refine ⟨c, b, by rw [hcm], fun h1 => ?_, by rw [put_lt hc]; rfl, by rw [put_lt hc]; rfl, ?_⟩
      · rcases Nat.eq_zero_or_pos c with h2 | h2
        · exact absurd ⟨h1, by omega⟩ h0
        · exact h2
      · rw [hcm]
        by_cases hi9 : i = 9
        · subst hi9
          have h4 : (128 : Nat) ^ 9 = 9223372036854775808 := by decide
          rw [h4] at hacc ⊢
          have : ¬ 1 < c % 128 := fun h => h9 ⟨rfl, h⟩
          omega
        · have h1 : 128 ^ (i + 1) ≤ 128 ^ 9 := Nat.pow_le_pow_right (by omega) (by omega)
          have h4 : (128 : Nat) ^ 9 = 9223372036854775808 := by decide
          have h2 : c * 128 ^ i ≤ 127 * 128 ^ i := Nat.mul_le_mul_right _ (by omega)
          rw [Nat.pow_succ] at h1
          omega
    · rename_i hc
      have hacc' : acc + c % 128 * 128 ^ i < 128 ^ (i + 1) := by
        have h2 : c % 128 * 128 ^ i ≤ 127 * 128 ^ i := Nat.mul_le_mul_right _ (by omega)
        rw [Nat.pow_succ]
        omega
      obtain ⟨m, rest, hn, hm, hbb, hk, hlt⟩ := takeFrom_some b (i + 1) _ n k (fun x hx => hb x (List.mem_cons_of_mem _ hx)) hacc' h
      have hm0 := hm (by omega)
      have hM : c % 128 + 128 * m = c - 128 + 128 * m := by omega
      have hs := pow_split i (c % 128 + 128 * m)
      have e1 : (c % 128 + 128 * m) % 128 = c % 128 := by omega
      have e2 : (c % 128 + 128 * m) / 128 = m := by omega
      rw [e1, e2] at hs
      refine ⟨c % 128 + 128 * m, rest, by omega, fun _ => by omega, ?_, ?_, hlt⟩
      · rw [put_ge (by omega), e1, e2, hbb, show c % 128 + 128 = c by omega]; rfl
      · rw [put_ge (by omega), e2, hk]; simp; omega

theorem take_some {b : List Nat} {n k : Nat} (hb : ∀ x ∈ b, x < 256) (h : take b = some (n, k)) :
    ∃ rest, b = put n ++ rest ∧ k = (put n).length ∧ n < 18446744073709551616 := by
  obtain ⟨m, rest, hn, _, hbb, hk, hlt⟩ := takeFrom_some b 0 0 n k hb (by simp) h
  have : n = m := by simpa using hn
  subst this
  exact ⟨rest, hbb, by simpa using hk, hlt⟩

/-- The reference's way: the sum modulo 2^64, then what is read is written again. -/
def refFrom (all : List Nat) : List Nat → Nat → Nat → Option (Nat × Nat)
  | [], _, _ => none
  | c :: b, i, acc =>
    if 10 ≤ i then none
    else if c < 128 then
      (if put ((acc + c % 128 * 128 ^ i) % 18446744073709551616) = all.take (i + 1) then some ((acc + c % 128 * 128 ^ i) % 18446744073709551616, i + 1) else none)
    else refFrom all b (i + 1) ((acc + c % 128 * 128 ^ i) % 18446744073709551616)

/-- a number's value off its bytes -/
def val : List Nat → Nat
  | [] => 0
  | c :: l => c % 128 + 128 * val l

theorem val_put (n : Nat) : val (put n) = n := by
  induction n using Nat.strongRecOn with
  | _ n ih =>
    by_cases h : n < 128
    · rw [put_lt h]; simp [val]; omega
    · rw [put_ge (by omega), val, ih (n / 128) (by omega)]; omega

theorem put_inj {m n : Nat} (h : put m = put n) : m = n := by rw [← val_put m, h, val_put]

theorem val_append (l r : List Nat) : val (l ++ r) = val l + val r * 128 ^ l.length := by
  induction l with
  | nil => simp [val]
  | cons c l ih =>
    simp only [List.cons_append, val, ih, List.length_cons, Nat.pow_succ]
    rw [Nat.mul_add, Nat.add_assoc]
    congr 2
    rw [Nat.mul_comm (128 ^ l.length) 128, ← Nat.mul_assoc, ← Nat.mul_assoc, Nat.mul_comm 128]

/-- a number's bytes: all but the last one are 128 or more. -/
theorem put_shape (n : Nat) : ∃ (l : List Nat) (c : Nat), put n = l ++ [c] ∧ (∀ x ∈ l, 128 ≤ x) ∧ c < 128 := by
  induction n using Nat.strongRecOn with
  | _ n ih =>
    by_cases h : n < 128
    · exact ⟨[], n, by rw [put_lt h]; rfl, by simp, h⟩
    · obtain ⟨l, c, hp, hl, hc⟩ := ih (n / 128) (by omega)
      refine ⟨(n % 128 + 128) :: l, c, by rw [put_ge (by omega), hp]; rfl, ?_, hc⟩
      intro x hx
      rcases List.mem_cons.1 hx with rfl | hx
      · omega
      · exact hl x hx

theorem shape_unique : ∀ (l l' r r' : List Nat) (c c' : Nat), l ++ c :: r = l' ++ c' :: r' → (∀ x ∈ l, 128 ≤ x) → (∀ x ∈ l', 128 ≤ x) → c < 128 → c' < 128 → l = l' ∧ c = c'
  | [], [], r, r', c, c', h, _, _, _, _ => by simp at h; exact ⟨rfl, h.1⟩
  | [], y :: l', r, r', c, c', h, _, h2, h3, _ => by
    simp at h
    have := h2 y (by simp)
    omega
  | x :: l, [], r, r', c, c', h, h1, _, _, h4 => by
    simp at h
    have := h1 x (by simp)
    omega
  | x :: l, y :: l', r, r', c, c', h, h1, h2, h3, h4 => by
    simp at h
    obtain ⟨e1, e2⟩ := shape_unique l l' r r' c c' h.2 (fun z hz => h1 z (List.mem_cons_of_mem _ hz)) (fun z hz => h2 z (List.mem_cons_of_mem _ hz)) h3 h4
    exact ⟨by rw [h.1, e1], e2⟩

theorem refFrom_eq : ∀ (b pre : List Nat) (acc : Nat), (∀ x ∈ pre ++ b, x < 256) → (∀ x ∈ pre, 128 ≤ x) → acc = val pre % 18446744073709551616 →
    refFrom (pre ++ b) b pre.length acc = take (pre ++ b)
  | [], pre, acc, hx, hpre, hacc => by
    rw [refFrom]
    cases ht : take (pre ++ []) with
    | none => rfl
    | some r =>
      obtain ⟨n, k⟩ := r
      obtain ⟨rest, hb, hk, hlt⟩ := take_some (by simpa using hx) ht
      obtain ⟨l, c, hp, hl, hc⟩ := put_shape n
      have : c ∈ pre := by
        have : pre = l ++ c :: rest := by simpa [hp] using hb
        rw [this]; simp
      have := hpre c this
      omega
  | c :: b, pre, acc, hx, hpre, hacc => by
    rw [refFrom]
    by_cases hi : 10 ≤ pre.length
    · rw [if_pos hi]
      cases ht : take (pre ++ c :: b) with
      | none => rfl
      | some r =>
        obtain ⟨n, k⟩ := r
        obtain ⟨rest, hb, hk, hlt⟩ := take_some hx ht
        obtain ⟨l, d, hp, hl, hd⟩ := put_shape n
        have h10 := put_length_ten hlt
        rw [hp] at h10 hb
        simp at h10
        have hlen : l.length < pre.length := by omega
        have e : (pre ++ c :: b)[l.length]? = some d := by rw [hb]; simp
        rw [List.getElem?_append_left hlen] at e
        have := hpre d (List.mem_of_getElem? e)
        omega
    · rw [if_neg hi]
      have hmod : (acc + c % 128 * 128 ^ pre.length) % 18446744073709551616 = val (pre ++ [c]) % 18446744073709551616 := by
        rw [val_append, hacc]
        simp [val]
      rw [hmod]
      by_cases hc : c < 128
      · rw [if_pos hc]
        have htk : (pre ++ c :: b).take (pre.length + 1) = pre ++ [c] := by
          rw [show pre ++ c :: b = (pre ++ [c]) ++ b by simp, List.take_append_of_le_length (by simp)]
          exact List.take_of_length_le (by simp)
        rw [htk]
        split
        · rename_i he
          have := take_put (val (pre ++ [c]) % 18446744073709551616) b (Nat.mod_lt _ (by omega))
          rw [he] at this
          rw [show pre ++ c :: b = (pre ++ [c]) ++ b by simp, this]
          simp
        · rename_i he
          cases ht : take (pre ++ c :: b) with
          | none => rfl
          | some r =>
            obtain ⟨n, k⟩ := r
            obtain ⟨rest, hb, hk, hlt⟩ := take_some hx ht
            obtain ⟨l, d, hp, hl, hd⟩ := put_shape n
            have hb' : pre ++ c :: b = l ++ d :: rest := by rw [hb, hp]; simp
            obtain ⟨e1, e2⟩ := shape_unique _ _ _ _ _ _ hb' hpre hl hc hd
            subst e1; subst e2
            refine absurd ?_ he
            rw [← hp, val_put, Nat.mod_eq_of_lt hlt]
      · rw [if_neg hc]
        have := refFrom_eq b (pre ++ [c]) (val (pre ++ [c]) % 18446744073709551616) (by simpa using hx) (by
          intro x hx'
          rcases List.mem_append.1 hx' with h | h
          · exact hpre x h
          · simp at h; omega) rfl
        simpa using this

theorem ref_take (b : List Nat) (hx : ∀ x ∈ b, x < 256) : refFrom b b 0 0 = take b := by
  simpa using refFrom_eq b [] 0 (by simpa using hx) (by simp) (by simp [val])

/-- of fewer bytes than a number has nothing is taken. -/
theorem take_short {b : List Nat} {n k j : Nat} (hb : ∀ x ∈ b, x < 256) (h : take b = some (n, k)) (hj : j < k) : take (b.take j) = none := by
  cases ht : take (b.take j) with
  | none => rfl
  | some r =>
    obtain ⟨m, i⟩ := r
    obtain ⟨rest, hbb, hk, hlt⟩ := take_some hb h
    obtain ⟨rest', hbb', hk', hlt'⟩ := take_some (fun x hx => hb x (List.mem_of_mem_take hx)) ht
    obtain ⟨l, c, hp, hl, hc⟩ := put_shape n
    obtain ⟨l', c', hp', hl', hc'⟩ := put_shape m
    have h1 : b = l ++ c :: rest := by rw [hbb, hp]; simp
    have h2 : b = l' ++ c' :: (rest' ++ b.drop j) := by
      calc b = b.take j ++ b.drop j := (List.take_append_drop j b).symm
        _ = _ := by rw [hbb', hp']; simp
    obtain ⟨e1, e2⟩ := shape_unique _ _ _ _ _ _ (h1.symm.trans h2) hl hl' hc hc'
    have : (b.take j).length ≤ j := List.length_take_le _ _
    rw [hbb', hp', ← e1, ← e2] at this
    rw [hk, hp] at hj
    simp at this hj
    omega

/-- the bytes of one number do not begin another's. -/
theorem put_begins (n m : Nat) (rest : List Nat) (h : put m = put n ++ rest) (hm : m < 18446744073709551616) (hn : n < 18446744073709551616) : m = n := by
  have h1 := take_put n rest hn
  have h2 := take_put m [] hm
  rw [List.append_nil, h, h1] at h2
  simp at h2
  exact h2.1.symm

end Go.Proofs.Ytokpcpopibpebaa.V
