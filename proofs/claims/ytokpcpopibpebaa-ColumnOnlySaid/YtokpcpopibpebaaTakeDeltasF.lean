/-
  The contracts of both TakeDeltas.
-/
import Derived.Test.YtokpcpopibpebaaRTakeRunsF
import Derived.Test.YtokpcpopibpebaaRDeltasF
namespace Go.Proofs.Ytokpcpopibpebaa
open Go Go.RowKit
set_option linter.unusedVariables false
set_option linter.unusedSimpArgs false

theorem Answer.cases {α : Type} {e : TypeId} {V : α → Value} {arg : Bool} {r : Option (List α × Nat)} {w : World} {en : Ending} {w' : World} (h : Answer e V arg r w en w') :
    Below w.heap.size w w' ∧ ((arg = true ∧ en = .returned (.tuple #[.slice none 0 0, .int .i64 0, .int .i64 1])) ∨ (arg = false ∧ r = none ∧ en = .returned (.tuple #[.slice none 0 0, .int .i64 0, .int .i64 41])) ∨
      (arg = false ∧ ∃ l k A c, r = some (l, k) ∧ en = .returned (.tuple #[.slice A l.length c, .int .i64 (k : Int), .int .i64 0]) ∧ w'.ownsRow w.heap.size e 1 (.slice A l.length c) l.length (l.map V))) := by
  obtain ⟨h1, h2⟩ := h
  refine ⟨h1, ?_⟩
  match arg, r, h2 with
  | true, _, h2 => exact .inl ⟨rfl, h2⟩
  | false, none, h2 => exact .inr (.inl ⟨rfl, rfl, h2⟩)
  | false, some (l, k), ⟨A, c, h3, h4⟩ => exact .inr (.inr ⟨rfl, l, k, A, c, rfl, h3, h4⟩)
theorem takenD_eq (b : List Nat) (n : Nat) : takenD b n = (takenI b n).map fun p => (undelta p.1, p.2) := by
  unfold takenD takenI
  cases parse b n none <;> rfl

/-- the list, half of it summed up -/
def halfU (zs : List Int) (j : Nat) : List Int := (undelta zs).take j ++ zs.drop j
theorem halfU_zero (zs : List Int) : halfU zs 0 = zs := by simp [halfU]
theorem halfU_all (zs : List Int) {n : Nat} (h : zs.length = n) : halfU zs n = undelta zs := by
  unfold halfU
  rw [List.drop_eq_nil_of_le (by omega), List.append_nil, List.take_of_length_le (by rw [undelta_len]; omega)]
theorem halfU_set {zs : List Int} {j : Nat} {d : Int} (hj : j < zs.length) (hd : (undelta zs)[j]? = some d) : (halfU zs j).set j d = halfU zs (j + 1) := by
  unfold halfU
  have hl : ((undelta zs).take j).length = j := by rw [List.length_take, undelta_len]; omega
  rw [List.set_append_right _ _ (by omega), hl, Nat.sub_self, List.drop_eq_getElem_cons hj, List.set_cons_zero]
  have h2 : j < (undelta zs).length := by rw [undelta_len]; exact hj
  rw [List.getElem?_eq_getElem h2] at hd
  injection hd with hd
  rw [List.take_succ_eq_append_getElem h2, hd]
  simp
theorem halfU_same {zs : List Int} {x : Int} (h0 : zs[0]? = some x) : halfU zs 1 = zs := by
  cases zs with
  | nil => simp at h0
  | cons y t => simp [halfU, undelta]
theorem halfU_at {zs : List Int} {j : Nat} (hj : j < zs.length) : (halfU zs j)[j]? = zs[j]? := by
  unfold halfU
  have hl : ((undelta zs).take j).length = j := by rw [List.length_take, undelta_len]; omega
  rw [List.getElem?_append_right (by omega), hl, Nat.sub_self, List.getElem?_drop]
  simp
theorem halfU_before {zs : List Int} {j i : Nat} (hi : i < j) (hj : j ≤ zs.length) : (halfU zs j)[i]? = (undelta zs)[i]? := by
  unfold halfU
  rw [List.getElem?_append_left (by rw [List.length_take, undelta_len]; omega), List.getElem?_take, if_pos hi]

set_option maxRecDepth 100000 in
set_option maxHeartbeats 4000000 in
theorem takedeltas_any (A : Option Addr) (len c : Nat) (b : List Nat) (n : Int) (hn1 : -9223372036854775808 ≤ n) (hn2 : n < 9223372036854775808) (W : World) (hR : Rd W W.heap.size 1 A len (by8 b)) (hb : ∀ x ∈ b, x < 256) (hlen : len ≤ 1000000) (hcap : len ≤ c) (hmax : c ≤ maxLen) :
    Calls Try.prog 36 #[.slice A len c, .int .i64 n] W (Answer 3 (Value.int .i64) (badN n) (takenD b n.toNat) W) := by
  have HT := Lib.hid (takeruns_any A len c b n hn1 hn2 W hR hb hlen hcap hmax)
  obtain ⟨bad, hbad⟩ : ∃ x, badN n = x := ⟨_, rfl⟩
  obtain ⟨ans, hans⟩ : ∃ x, takenI b n.toNat = x := ⟨_, rfl⟩
  have hsm : ∀ l k, ans = some (l, k) → bad = false → l.length ≤ 65536 ∧ ∀ x ∈ l, InI x := fun l k h hb' => by
    rw [← hans] at h
    unfold takenI at h
    cases hp : parse b n.toNat none with
    | none => rw [hp] at h; cases h
    | some ps =>
      rw [hp] at h
      simp only [Option.map_some, Option.some.injEq, Prod.mk.injEq] at h
      obtain ⟨_, h2, h3, _⟩ := parse_some hb hp
      have hnn : n.toNat ≤ 65536 := by
        rw [← hbad] at hb'
        unfold badN at hb'
        simp at hb'
        omega
      rw [← h.1]
      exact ⟨by omega, expand_InI fun p hp => (h3 p hp).2.2⟩
  have HSM := Lib.hid hsm
  rw [takenD_eq, hans, hbad]
  rw [hans, hbad] at HT
  clear hR hb hsm hans hbad hlen hcap hmax
  go_enter Try.func36, Try.ntmps36
  go_wp2_with fail
  refine HT.out.mono ?_
  intro e w1 hA
  obtain ⟨hB1, hc⟩ := hA.cases
  have HB1 := Lib.hid hB1
  clear hB1 hA HT
  rcases hc with ⟨rfl, rfl⟩ | ⟨rfl, rfl, rfl⟩ | ⟨rfl, zs, k, A1, c1, rfl, rfl, own1⟩
  · go_wp2_with fail
    go_loopw [20] (fun s20 wr => s20 = .int .i64 0 ∧ wr = w1) (fun _ _ => 0)
    case atStart => exact ⟨rfl, rfl⟩
    case round =>
      obtain ⟨rfl, rfl⟩ := hrel
      go_wp2_with fail
      go_ret3
      exact Answer.arg_ HB1.out
  · go_wp2_with fail
    go_loopw [20] (fun s20 wr => s20 = .int .i64 0 ∧ wr = w1) (fun _ _ => 0)
    case atStart => exact ⟨rfl, rfl⟩
    case round =>
      obtain ⟨rfl, rfl⟩ := hrel
      go_wp2_with fail
      go_ret3
      exact Answer.none_ rfl HB1.out
  · obtain ⟨hm1, hm2⟩ := HSM.out zs k rfl rfl
    obtain ⟨m, hm⟩ : ∃ m, zs.length = m := ⟨_, rfl⟩
    rw [hm] at own1 hm1 ⊢
    have hc1 := own_cap own1
    have OW1 : Hid (w1.ownsRow W.heap.size 3 1 (.slice A1 m c1) m (i64s zs)) := Lib.hid own1
    have HZL := Lib.hid hm
    have HZ := Lib.hid hm2
    have HC1 := Lib.hid hc1
    have hcm : m ≤ c1 := hc1.1
    have hcx : c1 ≤ 9223372036854775807 := hc1.2
    clear own1 hm hm2 hc1 HSM
    go_wp2_with fail
    go_loopw [10, 20] (fun s10 s20 wr => ∃ j : Nat, s20 = .int .i64 j ∧ j ≤ m ∧ Hid (wr.ownsRow W.heap.size 3 1 (.slice A1 m c1) m (i64s (halfU zs j))) ∧ Hid (Below W.heap.size W wr)) (fun _ s20 _ => m - (intOf s20).toNat)
    case atStart => exact ⟨0, rfl, Nat.zero_le _, Lib.hid (by rw [halfU_zero]; exact OW1.out), HB1⟩
    case round =>
      obtain ⟨j, rfl, hj, HO, HB⟩ := hrel
      by_cases hlt : j < m
      · by_cases hj0 : j = 0
        · subst hj0
          obtain ⟨x, hx⟩ : ∃ x, zs[0]? = some x := ⟨zs[0]'(by rw [HZL.out]; exact hlt), List.getElem?_eq_getElem _⟩
          have HO1 : Hid (wr.ownsRow W.heap.size 3 1 (.slice A1 m c1) m (i64s (halfU zs 1))) := Lib.hid (by rw [halfU_same hx]; have := HO.out; rw [halfU_zero] at this; exact this)
          clear hx
          go_wp2_with fail
          go_roundw
          case rel => exact ⟨1, by go_num, by omega, HO1, HB⟩
          case measure => simp [intOf]; omega
        · obtain ⟨i, rfl⟩ : ∃ i, j = i + 1 := ⟨j - 1, by omega⟩
          obtain ⟨x, hx⟩ : ∃ x, (undelta zs)[i]? = some x := ⟨_, List.getElem?_eq_getElem (by rw [undelta_len, HZL.out]; omega)⟩
          obtain ⟨y, hy⟩ : ∃ y, zs[i + 1]? = some y := ⟨zs[i + 1]'(by rw [HZL.out]; omega), List.getElem?_eq_getElem _⟩
          obtain ⟨g, rfl, hg1, hg2⟩ := own_addr HO.out (Nat.lt_of_le_of_lt (Nat.zero_le _) hlt)
          have cx : wr.cell? ⟨g, i, none⟩ = some (.int .i64 x) := (HO.out.cellAt i (by omega)).trans (i64s_at (by rw [halfU_before (Nat.lt_succ_self i) (by rw [HZL.out]; exact hj)]; exact hx))
          have cy : wr.cell? ⟨g, i + 1, none⟩ = some (.int .i64 y) := (HO.out.cellAt (i + 1) (by omega)).trans (i64s_at (by rw [halfU_at (by rw [HZL.out]; exact hlt)]; exact hy))
          have hfz := HO.out.frozenAt (i + 1)
          have HD : Hid ((undelta zs)[i + 1]? = some (wrap64 (y + x))) := Lib.hid (undelta_at hx hy)
          obtain ⟨st1, st2⟩ := HO.out.stored (i + 1) (.int .i64 (wrap64 (y + x)))
          have HO3 : Hid ((wr.setCell ⟨g, i + 1, none⟩ (.int .i64 (wrap64 (y + x)))).drew.ownsRow W.heap.size 3 1 (.slice (some ⟨g, 0, none⟩) m c1) m (i64s (halfU zs (i + 1 + 1)))) := Lib.hid (by
            rw [← halfU_set (by rw [HZL.out]; omega) HD.out]
            unfold i64s
            rw [List.map_set]
            exact st1.drew)
          have HB3 : Hid (Below W.heap.size W (wr.setCell ⟨g, i + 1, none⟩ (.int .i64 (wrap64 (y + x)))).drew) := Lib.hid (HB.out.setCell (p := ⟨g, i + 1, none⟩) hg1 _).drew
          have k1 : (0 : Int) ≤ (i : Int) := by omega
          have k2 : (i : Int) + 1 < (m : Int) := by omega
          have k3 : (i : Int) < (m : Int) := by omega
          clear hx hy st1 st2
          go_wp2_with fail
          go_region
          go_wp2_with fail
          go_roundw
          case rel => exact ⟨i + 1 + 1, by go_num, by omega, HO3, HB3⟩
          case measure => simp [intOf]; omega
      · obtain rfl : j = m := by omega
        have hfin := HO.out
        rw [halfU_all zs HZL.out] at hfin
        have HFI := Lib.hid hfin
        clear hfin
        go_wp2_with fail
        go_ret3
        exact Answer.some_ rfl (by rw [undelta_len, HZL.out]) rfl HB.out HFI.out
end Go.Proofs.Ytokpcpopibpebaa
