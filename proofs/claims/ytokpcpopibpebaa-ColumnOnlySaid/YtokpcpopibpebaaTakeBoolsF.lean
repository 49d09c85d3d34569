/-
  The contract of TakeBools of package column.
-/
import Derived.Test.YtokpcpopibpebaaRTakeRunsF
import Derived.Test.YtokpcpopibpebaaRBoolsF
namespace Go.Proofs.Ytokpcpopibpebaa
open Go Go.RowKit
set_option linter.unusedVariables false
set_option linter.unusedSimpArgs false

def vOf (ks : List Nat) : Bool := ks.length % 2 == 1
theorem vOf_snoc (ks : List Nat) (k : Nat) : vOf (ks ++ [k]) = !vOf ks := by
  unfold vOf
  rw [List.length_append, List.length_singleton]
  rcases Nat.mod_two_eq_zero_or_one ks.length with h | h
  · rw [show (ks.length + 1) % 2 = 1 by omega, h]; rfl
  · rw [show (ks.length + 1) % 2 = 0 by omega, h]; rfl
theorem expandB_snoc : ∀ (ks : List Nat) (v : Bool) (k : Nat), expandB v (ks ++ [k]) = expandB v ks ++ List.replicate k (if vOf ks then !v else v)
  | [], v, k => by simp [expandB, vOf]
  | j :: js, v, k => by
    have e : vOf (j :: js) = !vOf js := by
      unfold vOf
      rw [List.length_cons]
      rcases Nat.mod_two_eq_zero_or_one js.length with h | h
      · rw [show (js.length + 1) % 2 = 1 by omega, h]; rfl
      · rw [show (js.length + 1) % 2 = 0 by omega, h]; rfl
    rw [List.cons_append, expandB, expandB_snoc js (!v) k, expandB, List.append_assoc, e]
    cases vOf js <;> cases v <;> rfl
theorem expandB_next (ks : List Nat) (k : Nat) : expandB false (ks ++ [k]) = expandB false ks ++ List.replicate k (vOf ks) := by
  rw [expandB_snoc]
  cases vOf ks <;> rfl

theorem meas0 {N m k p i : Nat} (h7 : p = 0) (hi : 1 ≤ i) (hm : m < N) : 2 * (N - (m + k)) + (if ((p : Int) + (i : Int)).toNat = 0 then 1 else 0) < 2 * (N - m) + (if ((p : Int)).toNat = 0 then 1 else 0) := by
  rw [if_neg (by omega), if_pos (by omega)]; omega
theorem meas1 {N m k p i : Nat} (hk : 1 ≤ k) (hkl : k ≤ N - m) (hi : 1 ≤ i) : 2 * (N - (m + k)) + (if ((p : Int) + (i : Int)).toNat = 0 then 1 else 0) < 2 * (N - m) + (if ((p : Int)).toNat = 0 then 1 else 0) := by
  rw [if_neg (by omega)]; omega

structure BAt (W : World) (b : List Nat) (N : Nat) (ks : List Nat) (p m : Nat) (v : Bool) (Av : Option Addr) (cv : Nat) (w : World) : Prop where
  own : w.ownsRow W.heap.size 4 1 (.slice Av m cv) m (bls (expandB false ks))
  below : Below W.heap.size W w
  rest : ∃ rest, b = puts ks ++ rest
  at_ : (puts ks).length = p
  len : (expandB false ks).length = m
  le : m ≤ N
  val : v = vOf ks
  eq : parseB b N true = (parseB (b.drop p) (N - m) (decide (p = 0))).map (ks ++ ·)
theorem BAt.p_le {W : World} {b : List Nat} {N : Nat} {ks : List Nat} {p m : Nat} {v : Bool} {Av : Option Addr} {cv : Nat} {w : World} (h : BAt W b N ks p m v Av cv w) : p ≤ b.length := by
  obtain ⟨r, e⟩ := h.rest
  have := congrArg List.length e
  rw [List.length_append, h.at_] at this
  omega
theorem BAt.start (W : World) (b : List Nat) (N : Nat) : BAt W b N [] 0 0 false none 0 W :=
  ⟨World.ownsRow_nil _ _ _ _, Below.refl _ _, ⟨b, rfl⟩, rfl, rfl, Nat.zero_le _, rfl, by simp⟩
theorem bls_append (l r : List Bool) : bls (l ++ r) = bls l ++ bls r := by simp [bls]
theorem bls_one (l : List Bool) : ∀ u ∈ bls l, u.oneCell' = true := by
  intro u hu
  simp only [bls, List.mem_map] at hu
  obtain ⟨x, _, rfl⟩ := hu
  rfl
section
variable {W : World} {b : List Nat} {N : Nat} {ks : List Nat} {p m : Nat} {v : Bool} {Av : Option Addr} {cv : Nat} {w : World}
theorem BAt.bad (h : BAt W b N ks p m v Av cv w) (hm : m < N) (hp : V.take (b.drop p) = none) : takenB b N = none := by
  unfold takenB
  rw [h.eq, parseB_none (by omega) hp]; rfl
theorem BAt.bad2 (h : BAt W b N ks p m v Av cv w) (hm : m < N) {k i : Nat} (hp : V.take (b.drop p) = some (k, i)) (hb : (k = 0 ∧ ¬ p = 0) ∨ N - m < k) : takenB b N = none := by
  unfold takenB
  rw [h.eq, parseB_bad (by omega) hp (hb.imp (fun ⟨a, b⟩ => ⟨a, decide_eq_false b⟩) id)]; rfl
theorem BAt.next (h : BAt W b N ks p m v Av cv w) (hb : ∀ y ∈ b, y < 256) (hm : m < N) {k i : Nat} (hp : V.take (b.drop p) = some (k, i)) (hg : ¬ ((k = 0 ∧ ¬ p = 0) ∨ N - m < k))
    {Av' : Option Addr} {cv' : Nat} {w' : World} (ho : w'.ownsRow W.heap.size 4 1 (.slice Av' (m + k) cv') (m + k) (bls (expandB false ks) ++ List.replicate k (Value.bool v))) (hB : Below W.heap.size W w') :
    BAt W b N (ks ++ [k]) (p + i) (m + k) (!v) Av' cv' w' ∧ 1 ≤ i := by
  obtain ⟨rest, e, hi, _⟩ := V.take_some (fun y hy => hb y (List.mem_of_mem_drop hy)) hp
  have hi1 : 1 ≤ i := by rw [hi]; exact V.put_length_pos k
  refine ⟨⟨?_, hB, ?_, ?_, ?_, by omega, ?_, ?_⟩, hi1⟩
  · rw [expandB_next, bls_append, ← h.val]
    have e2 : bls (List.replicate k v) = List.replicate k (Value.bool v) := by simp [bls]
    rw [e2]; exact ho
  · obtain ⟨r0, e0⟩ := h.rest
    have : b.drop p = r0 := by rw [e0, ← h.at_, List.drop_left]
    rw [this] at e
    exact ⟨rest, by rw [e0, e, puts_snoc, List.append_assoc]⟩
  · rw [puts_snoc, List.length_append, h.at_, hi]
  · rw [expandB_next, List.length_append, h.len]; simp
  · rw [vOf_snoc, ← h.val]
  · rw [h.eq, parseB_next (by omega) hp (fun hh => hg (hh.imp (fun ⟨a, b⟩ => ⟨a, of_decide_eq_false b⟩) id)), List.drop_drop, Nat.sub_sub]
    have e3 : decide (p + i = 0) = false := decide_eq_false (by omega)
    rw [e3]
    cases parseB (b.drop (p + i)) (N - (m + k)) false with
    | none => rfl
    | some qs => simp
theorem BAt.done (h : BAt W b N ks p m v Av cv w) (hm : m = N) : takenB b N = some (expandB false ks, p) := by
  unfold takenB
  rw [h.eq, hm, Nat.sub_self, parseB_zero]
  simp [h.at_]
/-- the reference's last test does not fail -/
theorem BAt.back (h : BAt W b N ks p m v Av cv w) (hb : ∀ y ∈ b, y < 256) (hm : m = N) : boolBytes (expandB false ks) = b.take p := by
  have hp : parseB b N true = some ks := by rw [h.eq, hm, Nat.sub_self, parseB_zero]; simp
  rw [(parseB_back hb hp).2.2]
  obtain ⟨r, e⟩ := h.rest
  rw [e, ← h.at_, List.take_left]
end

set_option maxRecDepth 100000 in
set_option maxHeartbeats 4000000 in
theorem takebools_any (A : Option Addr) (len c : Nat) (b : List Nat) (n : Int) (hn1 : -9223372036854775808 ≤ n) (hn2 : n < 9223372036854775808) (W : World) (hR : Rd W W.heap.size 1 A len (by8 b)) (hb : ∀ x ∈ b, x < 256) (hlen : len ≤ 1000000) (hcap : len ≤ c) (hmax : c ≤ maxLen) :
    Calls Try.prog 38 #[.slice A len c, .int .i64 n] W (Answer 4 Value.bool (badN n) (takenB b n.toNat) W) := by
  by_cases h1 : n < 0
  · have e : badN n = true := by simp [badN, h1]
    rw [e]
    go_enter Try.func38, Try.ntmps38
    go_wp2_with fail
    go_ret3
    exact Answer.arg_ (Below.refl _ _)
  by_cases h2 : 65536 < n
  · have e : badN n = true := by simp [badN, h2]
    rw [e]
    go_enter Try.func38, Try.ntmps38
    go_wp2_with fail
    go_ret3
    exact Answer.arg_ (Below.refl _ _)
  have e : badN n = false := by simp [badN]; omega
  rw [e]
  obtain ⟨N, rfl⟩ : ∃ N : Nat, n = N := ⟨n.toNat, by omega⟩
  have hN : N ≤ 65536 := by omega
  have d1 : decide ((N : Int) < 0) = false := by simp
  have d2 : decide (65536 < (N : Int)) = false := by simp; omega
  rw [Int.toNat_natCast]
  have hbl : b.length = len := by have := hR.len1; rwa [by8_len] at this
  have HBL := Lib.hid hbl
  have HR := Lib.hid hR
  have HB := Lib.hid hb
  unfold maxLen at hmax
  obtain ⟨ans, hans⟩ : ∃ ans, takenB b N = ans := ⟨_, rfl⟩
  have HANS := Lib.hid hans
  rw [hans]
  clear hbl hR hb e h1 h2 hn1 hn2 hans
  go_enter Try.func38, Try.ntmps38
  go_wp2_with fail
  go_loopw [7, 8, 9] (fun s7 s8 s9 wr => ∃ (ks : List Nat) (p m : Nat) (v : Bool) (Av : Option Addr) (cv : Nat), s7 = .slice Av m cv ∧ s8 = .int .i64 p ∧ s9 = .bool v ∧ Hid (BAt W b N ks p m v Av cv wr)) (fun s7 s8 _ _ => 2 * (N - (match s7 with | .slice _ m _ => m | _ => 0)) + (if (intOf s8).toNat = 0 then 1 else 0))
  case atStart => exact ⟨[], 0, 0, false, none, 0, rfl, rfl, rfl, Lib.hid (BAt.start W b N)⟩
  case round =>
    obtain ⟨ks, p, m, v, Av, cv, rfl, rfl, rfl, HA⟩ := hrel
    have hmN := HA.out.le
    by_cases hlt : m < N
    · have hp : p ≤ len := by have := HA.out.p_le; have := HBL.out; omega
      have hbs := HA.out.below.size
      obtain ⟨A1, hA1⟩ : ∃ A1, (if c = p then A else A.map (·.add p)) = A1 := ⟨_, rfl⟩
      have rd1 : Rd wr W.heap.size 1 A1 (len - p) (by8 (b.drop p)) := by
        have := (HR.out.below HA.out.below).drop1 (k := p) (c := c) hp hcap
        rw [hA1] at this
        simpa [by8, List.map_drop] using this
      have hb1 : ∀ x ∈ b.drop p, x < 256 := fun x hx => HB.out x (List.mem_of_mem_drop hx)
      have T1 := Lib.hid (fun cc => take_any (c := cc) rd1 hb1 (by unfold maxLen; omega))
      have k1 : (0 : Int) ≤ (p : Int) := by omega
      have k2 : (p : Int) ≤ (c : Int) := by omega
      have k3 : (p : Int) ≤ (len : Int) := by omega
      cases ht1 : V.take (b.drop p) with
      | none =>
        have T2 : Hid (∀ cc, Calls Try.prog 24 #[.slice A1 (len - p) cc] wr fun e w' => e = .returned (.tuple #[.int .u64 0, .int .i64 0, .int .i64 31]) ∧ wr = w') := Lib.hid fun cc => by
          have := T1.out cc
          unfold TakeRet at this
          obtain ⟨a, b, c⟩ := T_none ht1
          rw [a, b, c] at this
          exact this
        have HNO : Hid (ans = none) := Lib.hid (by rw [← HANS.out]; exact HA.out.bad hlt ht1)
        clear rd1 hb1 T1 ht1
        go_wp2_with fail
        refine (T2.out _).mono ?_
        rintro e w' ⟨rfl, rfl⟩
        go_wp2_with fail
        go_ret3
        exact Answer.none_ HNO.out HA.out.below
      | some r =>
        obtain ⟨k, i⟩ := r
        obtain ⟨hi, hk⟩ := take_le hb1 ht1
        simp only [List.length_drop, HBL.out] at hi
        have T2 : Hid (∀ cc, Calls Try.prog 24 #[.slice A1 (len - p) cc] wr fun e w' => e = .returned (.tuple #[.int .u64 (k : Int), .int .i64 (i : Int), .int .i64 0]) ∧ wr = w') := Lib.hid fun cc => by
          have := T1.out cc
          unfold TakeRet at this
          obtain ⟨a, b, c⟩ := T_some ht1
          rw [a, b, c] at this
          exact this
        have hw1 : IntKind.i64.wrap ((p : Int) + (i : Int)) = (p : Int) + (i : Int) := IntWalk.i64_in _ (by omega)
        have hsub : IntKind.u64.wrap ((N : Int) - (m : Int)) = ((N - m : Nat) : Int) := by rw [u64_wrap_of _ (by omega) (by omega)]; omega
        have HT1 := Lib.hid ht1
        clear rd1 hb1 T1 ht1 hk
        by_cases hkl : N - m < k
        · have HNO : Hid (ans = none) := Lib.hid (by rw [← HANS.out]; exact HA.out.bad2 hlt HT1.out (.inr hkl))
          have gk0 : ((k : Int) == 0) = false := by simpa using (by omega : ¬ (k : Int) = 0)
          go_wp2_with fail
          refine (T2.out _).mono ?_
          rintro e w' ⟨rfl, rfl⟩
          go_wp2_with fail
          go_ret3
          exact Answer.none_ HNO.out HA.out.below
        have gkl : decide (N - m < k) = false := by simpa using hkl
        have hkN : k ≤ 65536 := by omega
        have hwk : IntKind.i64.wrap (k : Int) = (k : Int) := IntWalk.i64_in _ (by omega)
        have hfit : m + k ≤ 65536 := by omega
        have hkl2 : k ≤ N - m := by omega
        have RP := Lib.hid (repB_any (some ⟨wr.heap.size, 0, none⟩) 1 v k hkN (wr.alloc (.cells #[.bool v] 4)) ((rd_alloc wr #[.bool v] 4 (0, 0) 1 1 rfl).more (by simp)))
        by_cases hk0 : k = 0
        · by_cases hp0 : p = 0
          · have gk0 : ((k : Int) == 0) = true := by simpa using (by omega : (k : Int) = 0)
            have gp1 : decide ((0 : Int) < (p : Int)) = false := by simp; omega
            have gp2 : decide (0 < p) = false := by simp; omega
            have HG : Hid (¬ ((k = 0 ∧ ¬ p = 0) ∨ N - m < k)) := Lib.hid (by omega)
            have HP0 := Lib.hid hp0
            have HK0 := Lib.hid hk0
            clear hp0 hk0 hkl
            go_wp2_with fail
            refine (T2.out _).mono ?_
            rintro e w' ⟨rfl, rfl⟩
            go_wp2_with fail
            refine RP.out.mono ?_
            rintro e w2 ⟨A5, c5, rfl, own5, hB5⟩
            have o2 := own_heap (HA.out.own.alloc (.cells #[.bool v] 4)) fun g eg => hB5.block g ((HA.out.own.alloc _).lt g eg).2
            have b2 : Below W.heap.size W w2 := (HA.out.below.alloc hbs _).trans (hB5.mono (by simp; omega))
            have O2 := Lib.hid o2
            have O5 := Lib.hid (Rd.of_own own5)
            have B2 := Lib.hid b2
            clear own5 hB5 o2 b2 RP T2
            go_wp2_with (at_builtin; refine wpList_app _ rfl (.tmp 50) (.tmp 55) 39 rfl W W.heap.size 4 (.bool false) 1 1 Try.underlying39 info4 rfl (by decide) _ _ _ rfl O2.out w2.heap.size A5 k c5 (List.replicate k (.bool v)) rfl O5.out (fun u hu => by rw [List.eq_of_mem_replicate hu]; rfl) (by unfold maxLen; omega) (by omega) B2.out (Nat.le_refl _) ?_)
            intro A6 c6 w3 own6 hg6 hB6
            have HA3 := Lib.hid (HA.out.next HB.out hlt HT1.out HG.out own6 hB6).1
            have hi1 := (HA.out.next HB.out hlt HT1.out HG.out own6 hB6).2
            clear own6 hg6 hB6 O2 O5 B2
            go_wp2_with fail
            go_roundw
            case rel => exact ⟨ks ++ [k], p + i, m + k, !v, A6, c6, by rfl, by go_num, rfl, HA3⟩
            case measure => exact meas0 HP0.out hi1 (by omega)
          · have HNO : Hid (ans = none) := Lib.hid (by rw [← HANS.out]; exact HA.out.bad2 hlt HT1.out (.inl ⟨hk0, hp0⟩))
            have gk0 : ((k : Int) == 0) = true := by simpa using (by omega : (k : Int) = 0)
            have gp : (0 : Int) < (p : Int) := by omega
            have gp2 : 0 < p := by omega
            clear hk0 hp0 hkl RP
            go_wp2_with fail
            refine (T2.out _).mono ?_
            rintro e w' ⟨rfl, rfl⟩
            go_wp2_with fail
            go_ret3
            exact Answer.none_ HNO.out HA.out.below
        · have gk0 : ((k : Int) == 0) = false := by simpa using (by omega : ¬ (k : Int) = 0)
          have HG : Hid (¬ ((k = 0 ∧ ¬ p = 0) ∨ N - m < k)) := Lib.hid (by omega)
          have hk1 : 1 ≤ k := by omega
          clear hk0 hkl
          go_wp2_with fail
          refine (T2.out _).mono ?_
          rintro e w' ⟨rfl, rfl⟩
          go_wp2_with fail
          refine RP.out.mono ?_
          rintro e w2 ⟨A5, c5, rfl, own5, hB5⟩
          have o2 := own_heap (HA.out.own.alloc (.cells #[.bool v] 4)) fun g eg => hB5.block g ((HA.out.own.alloc _).lt g eg).2
          have b2 : Below W.heap.size W w2 := (HA.out.below.alloc hbs _).trans (hB5.mono (by simp; omega))
          have O2 := Lib.hid o2
          have O5 := Lib.hid (Rd.of_own own5)
          have B2 := Lib.hid b2
          clear own5 hB5 o2 b2 RP T2
          go_wp2_with (at_builtin; refine wpList_app _ rfl (.tmp 50) (.tmp 55) 39 rfl W W.heap.size 4 (.bool false) 1 1 Try.underlying39 info4 rfl (by decide) _ _ _ rfl O2.out w2.heap.size A5 k c5 (List.replicate k (.bool v)) rfl O5.out (fun u hu => by rw [List.eq_of_mem_replicate hu]; rfl) (by unfold maxLen; omega) (by omega) B2.out (Nat.le_refl _) ?_)
          intro A6 c6 w3 own6 hg6 hB6
          have HA3 := Lib.hid (HA.out.next HB.out hlt HT1.out HG.out own6 hB6).1
          have hi1 := (HA.out.next HB.out hlt HT1.out HG.out own6 hB6).2
          clear own6 hg6 hB6 O2 O5 B2
          go_wp2_with fail
          go_roundw
          case rel => exact ⟨ks ++ [k], p + i, m + k, !v, A6, c6, by rfl, by go_num, rfl, HA3⟩
          case measure => exact meas1 hk1 hkl2 hi1
    · obtain rfl : m = N := by omega
      have HYES : Hid (ans = some (expandB false ks, p)) := Lib.hid (by rw [← HANS.out]; exact HA.out.done rfl)
      go_wp2_with fail
      go_ret3
      exact Answer.some_ HYES.out HA.out.len rfl HA.out.below HA.out.own
end Go.Proofs.Ytokpcpopibpebaa
