/-
  The walk of the reference's Take.
-/
import Derived.Test.YtfbiobglckjilaaTake
namespace Go.Proofs.Ytfbiobglckjilaa
open Go Go.RowKit
set_option linter.unusedVariables false

theorem marked_two {l : List Nat} (h : 2 ≤ l.length) : F.marked l ↔ l.getD 0 0 = 83 ∧ l.getD 1 0 = 84 := by
  match l, h with
  | a :: b :: r, _ => unfold F.marked; rw [List.take_of_length_le (l := [83, 84]) (by simp)]; simp
theorem marked_one {l : List Nat} (h : l.length = 1) : F.marked l ↔ l.getD 0 0 = 83 := by
  match l, h with
  | [a], _ => unfold F.marked; simp
theorem marked_nil {l : List Nat} (h : l.length = 0) : F.marked l := by
  have := List.eq_nil_of_length_eq_zero h
  subst this
  rfl
theorem getD_out {l : List Nat} {i : Nat} (h : l.length ≤ i) : l.getD i 0 = 0 := by rw [List.getD_eq_getElem?_getD, List.getElem?_eq_none h]; rfl

theorem v_mark {l : List Nat} (h : ¬ F.marked l) : F.verdict l = 1 := by unfold F.verdict; rw [if_pos h]
theorem v_big {l : List Nat} (h : F.marked l) (hb : 65536 < F.long l) : F.verdict l = 1 := by unfold F.verdict; rw [if_neg (fun k => k h), if_pos hb]
theorem v_short {l : List Nat} (h : F.marked l) (hb : ¬ 65536 < F.long l) (hs : l.length < 7 ∨ l.length < 11 + F.long l) : F.verdict l = 2 := by
  unfold F.verdict; rw [if_neg (fun k => k h), if_neg hb, if_pos hs]
theorem v_fit {l : List Nat} (h : F.marked l) (hb : ¬ 65536 < F.long l) (hs : ¬ (l.length < 7 ∨ l.length < 11 + F.long l)) : F.verdict l = if F.wrap (F.kindOf l) (F.bodyOf l) = l.take (11 + F.long l) then 0 else 1 := by
  unfold F.verdict; rw [if_neg (fun k => k h), if_neg hb, if_neg hs]

theorem rd_cell8 {w : World} {B n b off : Nat} {l : List Nat} (h : Rd w B 1 (some ⟨b, off, none⟩) n (by8 l)) (i : Nat) (hi : i < n) : w.cell? ⟨b, off + i, none⟩ = some (.int .u8 ((l.getD i 0 : Nat) : Int)) := by
  obtain ⟨b', off', hA, _, hc⟩ := h.at_ (by omega)
  injection hA with hA
  injection hA with hb ho
  subst hb ho
  refine hc i _ ?_
  have hlen : l.length = n := by simpa [by8_len] using h.len1
  simp [by8, List.getD_eq_getElem?_getD, List.getElem?_eq_getElem (show i < l.length by omega)]

theorem bool_eq {a b : Int} (h : a = b) : (a == b) = true ∧ (a != b) = false := by subst h; simp
theorem bool_ne {a b : Int} (h : ¬ a = b) : (a == b) = false ∧ (a != b) = true := by
  have : (a == b) = false := by simpa using h
  exact ⟨this, by rw [bne, this]; rfl⟩

set_option maxRecDepth 100000 in
set_option maxHeartbeats 1000000 in
theorem rtake_short {w : World} {A : Option Addr} {n c : Nat} {l : List Nat} (h : Rd w w.heap.size 1 A n (by8 l)) (hl : ∀ x ∈ l, x < 256) (hn : n < 7) :
    Calls Try.prog 17 #[.slice A n c] w (TakeRet l w) := by
  have hlen : l.length = n := by simpa [by8_len] using h.len1
  by_cases h0 : n = 0
  · have V : Hid (F.verdict l = 2) := Lib.hid (v_short (marked_nil (by omega)) (by unfold F.long; rw [getD_out (by omega), getD_out (by omega), getD_out (by omega), getD_out (by omega)]; omega) (by omega))
    subst h0
    clear h hl hlen hn
    go_enter Try.func17, Try.ntmps17
    go_wp2_with fail
    refine bodyPost_ret (results_tmp4 rfl _ _ _) rfl ?_
    exact TakeRet.bad (.inr ⟨V.out, rfl⟩) (Below.refl _ _)
  · obtain ⟨b, off, rfl, hb, _⟩ := h.at_ (by omega)
    have c0 := rd_cell8 h 0 (by omega)
    rw [Nat.add_zero] at c0
    obtain ⟨x0, hx0⟩ : ∃ x, x = l.getD 0 0 := ⟨_, rfl⟩
    rw [← hx0] at c0
    by_cases h83 : x0 = 83
    · obtain ⟨g1, g2⟩ := bool_eq (a := (x0 : Int)) (b := 83) (by omega)
      have hn0 : 0 < n := by omega
      by_cases h1 : n ≤ 1
      · have V : Hid (F.verdict l = 2) := Lib.hid (v_short ((marked_one (by omega)).2 (by omega)) (by unfold F.long; rw [getD_out (by omega), getD_out (by omega), getD_out (by omega), getD_out (by omega)]; omega) (by omega))
        clear h83 hx0 h0 hlen hl h
        go_enter Try.func17, Try.ntmps17
        go_wp2_with fail
        refine bodyPost_ret (results_tmp4 rfl _ _ _) rfl ?_
        exact TakeRet.bad (.inr ⟨V.out, rfl⟩) (Below.refl _ _)
      · have c1 := rd_cell8 h 1 (by omega)
        obtain ⟨x1, hx1⟩ : ∃ x, x = l.getD 1 0 := ⟨_, rfl⟩
        rw [← hx1] at c1
        by_cases h84 : x1 = 84
        · obtain ⟨g3, g4⟩ := bool_eq (a := (x1 : Int)) (b := 84) (by omega)
          have hM : F.marked l := (marked_two (by omega)).2 ⟨by omega, by omega⟩
          by_cases h5 : n ≤ 5
          · have V : Hid (F.verdict l = 2) := Lib.hid (v_short hM (by
              have y3 := getD_lt hl 3
              have y4 := getD_lt hl 4
              unfold F.long; rw [getD_out (i := 5) (by omega), getD_out (i := 6) (by omega)]; omega) (by omega))
            clear h83 hx0 h0 hlen hl h h84 hx1 hM
            go_enter Try.func17, Try.ntmps17
            go_wp2_with fail
            refine bodyPost_ret (results_tmp4 rfl _ _ _) rfl ?_
            exact TakeRet.bad (.inr ⟨V.out, rfl⟩) (Below.refl _ _)
          · have c3 := rd_cell8 h 3 (by omega)
            have c4 := rd_cell8 h 4 (by omega)
            have c5 := rd_cell8 h 5 (by omega)
            have y3 := getD_lt hl 3
            have y4 := getD_lt hl 4
            have hL : F.long l = l.getD 3 0 + l.getD 4 0 * 256 + l.getD 5 0 * 65536 := by unfold F.long; rw [getD_out (i := 6) (by omega)]; omega
            obtain ⟨x3, hx3⟩ : ∃ x, x = l.getD 3 0 := ⟨_, rfl⟩
            obtain ⟨x4, hx4⟩ : ∃ x, x = l.getD 4 0 := ⟨_, rfl⟩
            obtain ⟨x5, hx5⟩ : ∃ x, x = l.getD 5 0 := ⟨_, rfl⟩
            rw [← hx3] at c3 hL y3
            rw [← hx4] at c4 hL y4
            rw [← hx5] at c5 hL
            have V1 := Lib.hid (fun (k : 65536 < x3 + x4 * 256 + x5 * 65536) => v_big hM (by rw [hL]; exact k))
            have V2 := Lib.hid (fun (k : ¬ 65536 < x3 + x4 * 256 + x5 * 65536) => v_short hM (by rw [hL]; exact k) (by omega))
            clear h83 hx0 h0 hlen hl h h84 hx1 hM hx3 hx4 hx5 hL
            have k5 : (1 : Int) < (x5 : Int) ∨ ((x5 : Int) ≤ 1 ∧ ((x5 : Int) == 1) = false ∧ (x5 : Int) ≤ 0) ∨ ((x5 : Int) ≤ 1 ∧ ((x5 : Int) == 1) = true ∧ (1 : Int) ≤ (x5 : Int)) := by
              by_cases k1 : 1 < x5
              · exact .inl (by omega)
              · by_cases k2 : x5 = 1
                · exact .inr (.inr ⟨by omega, (bool_eq (by omega)).1, by omega⟩)
                · exact .inr (.inl ⟨by omega, (bool_ne (by omega)).1, by omega⟩)
            rcases k5 with k5 | ⟨k5, k6, k7⟩ | ⟨k5, k6, k7⟩
            · have V := Lib.hid (V1.out (by omega))
              go_enter Try.func17, Try.ntmps17
              go_wp2_with fail
              refine bodyPost_ret (results_tmp4 rfl _ _ _) rfl ?_
              exact TakeRet.bad (.inl ⟨V.out, rfl⟩) (Below.refl _ _)
            · have V := Lib.hid (V2.out (by omega))
              go_enter Try.func17, Try.ntmps17
              go_wp2_with fail
              refine bodyPost_ret (results_tmp4 rfl _ _ _) rfl ?_
              exact TakeRet.bad (.inr ⟨V.out, rfl⟩) (Below.refl _ _)
            · by_cases k3 : 0 < x3
              · have V := Lib.hid (V1.out (by omega))
                go_enter Try.func17, Try.ntmps17
                go_wp2_with fail
                refine bodyPost_ret (results_tmp4 rfl _ _ _) rfl ?_
                exact TakeRet.bad (.inl ⟨V.out, rfl⟩) (Below.refl _ _)
              · by_cases k4 : 0 < x4
                · have V := Lib.hid (V1.out (by omega))
                  go_enter Try.func17, Try.ntmps17
                  go_wp2_with fail
                  refine bodyPost_ret (results_tmp4 rfl _ _ _) rfl ?_
                  exact TakeRet.bad (.inl ⟨V.out, rfl⟩) (Below.refl _ _)
                · have V := Lib.hid (V2.out (by omega))
                  go_enter Try.func17, Try.ntmps17
                  go_wp2_with fail
                  refine bodyPost_ret (results_tmp4 rfl _ _ _) rfl ?_
                  exact TakeRet.bad (.inr ⟨V.out, rfl⟩) (Below.refl _ _)
        · have V : Hid (F.verdict l = 1) := Lib.hid (v_mark (fun hm => h84 (hx1.trans ((marked_two (by omega)).1 hm).2)))
          obtain ⟨g3, g4⟩ := bool_ne (a := (x1 : Int)) (b := 84) (by omega)
          clear h83 hx0 h0 hlen hl h h84 hx1
          go_enter Try.func17, Try.ntmps17
          go_wp2_with fail
          refine bodyPost_ret (results_tmp4 rfl _ _ _) rfl ?_
          exact TakeRet.bad (.inl ⟨V.out, rfl⟩) (Below.refl _ _)
    · have V : Hid (F.verdict l = 1) := Lib.hid (v_mark (by
        intro hm
        by_cases h1 : n = 1
        · exact h83 (hx0.trans ((marked_one (by omega)).1 hm))
        · exact h83 (hx0.trans ((marked_two (by omega)).1 hm).1)))
      obtain ⟨g1, g2⟩ := bool_ne (a := (x0 : Int)) (b := 83) (by omega)
      have hn0 : 0 < n := by omega
      clear h83 hx0 h0 hlen hl h
      go_enter Try.func17, Try.ntmps17
      go_wp2_with fail
      refine bodyPost_ret (results_tmp4 rfl _ _ _) rfl ?_
      exact TakeRet.bad (.inl ⟨V.out, rfl⟩) (Below.refl _ _)

/-- the answer of Wrap, the body's length said apart -/
def WrapRetN (N kind : Nat) (l : List Nat) (w : World) (e : Ending) (w' : World) : Prop :=
  ∃ A c, e = .returned (.tuple #[.slice A (11 + N) c, .int .i64 0]) ∧ w'.ownsRow w.heap.size 5 1 (.slice A (11 + N) c) (11 + N) (by8 (F.wrap kind l)) ∧ Below w.heap.size w w'
theorem WrapRet.to {N kind : Nat} {l : List Nat} {w : World} {e : Ending} {w' : World} (h : WrapRet kind l w e w') (hN : l.length = N) : WrapRetN N kind l w e w' := by subst hN; exact h

set_option maxRecDepth 100000 in
set_option maxHeartbeats 1000000 in
theorem rtake_seven {w : World} {A : Option Addr} {n c : Nat} {l : List Nat} (h : Rd w w.heap.size 1 A n (by8 l)) (hl : ∀ x ∈ l, x < 256) (hn : 7 ≤ n) (hn2 : n ≤ 1000000) (hc : n ≤ c) (hcm : c ≤ maxLen) :
    Calls Try.prog 17 #[.slice A n c] w (TakeRet l w) := by
  have hlen : l.length = n := by simpa [by8_len] using h.len1
  have HL := Lib.hid hlen
  have HB := Lib.hid hl
  have H := Lib.hid h
  obtain ⟨b, off, rfl, hb, _⟩ := h.at_ (by omega)
  have c0 := rd_cell8 h 0 (by omega)
  rw [Nat.add_zero] at c0
  have c1 := rd_cell8 h 1 (by omega)
  have c3 : ∀ nq, (w.drewN nq).cell? _ = _ := fun nq => rd_cell8 h 3 (by omega)
  have c4 : ∀ nq, (w.drewN nq).cell? _ = _ := fun nq => rd_cell8 h 4 (by omega)
  have c5 : ∀ nq, (w.drewN nq).cell? _ = _ := fun nq => rd_cell8 h 5 (by omega)
  have c6 : ∀ nq, (w.drewN nq).cell? _ = _ := fun nq => rd_cell8 h 6 (by omega)
  have y3 := getD_lt hl 3
  have y4 := getD_lt hl 4
  have y5 := getD_lt hl 5
  have y6 := getD_lt hl 6
  have hmk : F.marked l ↔ l.getD 0 0 = 83 ∧ l.getD 1 0 = 84 := marked_two (by omega)
  obtain ⟨x0, hx0⟩ : ∃ x, x = l.getD 0 0 := ⟨_, rfl⟩
  obtain ⟨x1, hx1⟩ : ∃ x, x = l.getD 1 0 := ⟨_, rfl⟩
  obtain ⟨x3, hx3⟩ : ∃ x, x = l.getD 3 0 := ⟨_, rfl⟩
  obtain ⟨x4, hx4⟩ : ∃ x, x = l.getD 4 0 := ⟨_, rfl⟩
  obtain ⟨x5, hx5⟩ : ∃ x, x = l.getD 5 0 := ⟨_, rfl⟩
  obtain ⟨x6, hx6⟩ : ∃ x, x = l.getD 6 0 := ⟨_, rfl⟩
  have HN := Lib.hid (show F.long l = x3 + x4 * 256 + x5 * 65536 + x6 * 16777216 by rw [hx3, hx4, hx5, hx6]; rfl)
  rw [← hx0, ← hx1] at hmk
  rw [← hx0] at c0
  rw [← hx1] at c1
  rw [← hx3] at c3 y3
  rw [← hx4] at c4 y4
  rw [← hx5] at c5 y5
  rw [← hx6] at c6 y6
  have HMK := Lib.hid hmk
  clear hlen hl h hx0 hx1 hx3 hx4 hx5 hx6 hmk
  unfold maxLen at hcm
  have n0 : 0 < n := by omega
  have n1 : 1 < n := by omega
  by_cases h83 : x0 = 83
  · obtain ⟨g1, g2⟩ := bool_eq (a := (x0 : Int)) (b := 83) (by omega)
    by_cases h84 : x1 = 84
    · obtain ⟨g3, g4⟩ := bool_eq (a := (x1 : Int)) (b := 84) (by omega)
      have HM := Lib.hid (HMK.out.2 ⟨h83, h84⟩)
      clear h83 h84
      go_enter Try.func17, Try.ntmps17
      go_wp2_with fail
      go_quiet (fail)
      have HD := Lib.hid (below_draws (Below.refl w.heap.size w) nq)
      clear c0 c1 c3 c4 c5 c6 g1 g2 g3 g4
      generalize w.drewN nq = wd at *
      obtain ⟨N, hN, hNi⟩ : ∃ N : Nat, N = F.long l ∧ (x3 : Int) + (x4 : Int) * 256 + (x5 : Int) * 65536 + (x6 : Int) * 16777216 = (N : Int) := ⟨_, rfl, by rw [HN.out]; simp⟩
      rw [hNi]
      have HN2 := Lib.hid hN
      clear hN hNi HN
      clear y3 y4 y5 y6 n0 n1
      by_cases hbig : 65536 < N
      · have V : Hid (F.verdict l = 1) := Lib.hid (v_big HM.out (by rw [← HN2.out]; exact hbig))
        go_wp2_with fail
        refine bodyPost_ret (results_tmp4 rfl _ _ _) rfl ?_
        exact TakeRet.bad (.inl ⟨V.out, rfl⟩) HD.out
      · by_cases h11 : n < 11 + N
        · have V : Hid (F.verdict l = 2) := Lib.hid (v_short HM.out (by rw [← HN2.out]; exact hbig) (.inr (by rw [← HN2.out, HL.out]; exact h11)))
          go_wp2_with fail
          refine bodyPost_ret (results_tmp4 rfl _ _ _) rfl ?_
          exact TakeRet.bad (.inr ⟨V.out, rfl⟩) HD.out
        · have V := Lib.hid (v_fit HM.out (by rw [← HN2.out]; exact hbig) (by rw [← HN2.out, HL.out]; omega))
          have hkc := rd_cell8 H.out 2 (by omega)
          obtain ⟨kd, hkd⟩ : ∃ kd, kd = F.kindOf l := ⟨_, rfl⟩
          have hkd' : l.getD 2 0 = kd := by rw [hkd]; rfl
          rw [hkd'] at hkc
          have hkb : kd < 256 := by rw [← hkd']; exact getD_lt HB.out 2
          obtain ⟨body, hbody⟩ : ∃ body, body = F.bodyOf l := ⟨_, rfl⟩
          obtain ⟨A11, hA11⟩ : ∃ A', (if c = 11 then some (⟨b, off, none⟩ : Addr) else some ⟨b, off + 11, none⟩) = A' := ⟨_, rfl⟩
          have hr11 : Rd w w.heap.size 1 A11 N (by8 body) := by
            have d2 := (H.out.take1 (k := 11 + N) (by omega)).drop1 (k := 11) (c := c) (by omega) (by omega)
            have e : ((by8 l).take (11 + N)).drop 11 = by8 body := by
              rw [hbody]
              unfold F.bodyOf
              rw [← HN2.out, List.drop_take, show 11 + N - 11 = N by omega]
              simp [by8, List.map_take, List.map_drop]
            rw [e, show 11 + N - 11 = N by omega] at d2
            simp only [Option.map_some, addr_add] at d2
            rwa [hA11] at d2
          have hbl : body.length = N := by simpa [by8_len] using hr11.len1
          have hb256 : ∀ x ∈ body, x < 256 := by
            intro x hx
            rw [hbody] at hx
            exact HB.out x (List.mem_of_mem_drop (List.mem_of_mem_take hx))
          have hrX : Rd w w.heap.size 1 (some ⟨b, off, none⟩) (11 + N) (by8 (l.take (11 + N))) := by
            have := H.out.take1 (k := 11 + N) (by omega)
            have e : (by8 l).take (11 + N) = by8 (l.take (11 + N)) := by simp [by8, List.map_take]
            rwa [e] at this
          have hr11d : Rd wd.drew wd.drew.heap.size 1 A11 N (by8 body) := (hr11.below HD.out).more HD.out.size
          have C := Lib.hid ((rwrap_any (c := c - 11) (kind := kd) hr11d hb256 (by omega) hkb).mono fun _ _ h => h.to hbl)
          have kc : wd.drew.cell? ⟨b, off + 2, none⟩ = some (.int .u8 (kd : Nat)) := (HD.out.cell (p := ⟨b, off + 2, none⟩) hb).trans hkc
          have HKC := Lib.hid hkc
          have HWB := Lib.hid (F.wrap_byte hkb hb256)
          have hbq := str8_beq (l := F.wrap kd body) (l' := l.take (11 + N)) (F.wrap_byte hkb hb256) (fun x hx => HB.out x (List.mem_of_mem_take hx))
          have HBQ := Lib.hid hbq
          have R11 := Lib.hid hr11
          have RX := Lib.hid hrX
          have HBL := Lib.hid hbl
          have HKD := Lib.hid hkd
          have HBO := Lib.hid hbody
          have HBB := Lib.hid hb256
          have i11 : (11 : Int) ≤ 11 + (N : Int) := by omega
          have i11c : 11 + (N : Int) ≤ (c : Int) := by omega
          have e11 : (11 : Nat) + N - 11 = N := by omega
          have j0 : (0 : Int) ≤ 11 + (N : Int) := by omega
          have i2 : (2 : Int) < (n : Int) := by omega
          have wN : IntKind.i64.wrap (11 + (N : Int)) = 11 + (N : Int) := IntWalk.i64_in _ (by omega)
          have mN : max (11 + (N : Int)) 0 = 11 + (N : Int) := by omega
          have eN : (11 + (N : Int)).toNat = 11 + N := by omega
          have eN1 : 11 + N - 11 = N := by omega
          clear hkc hr11 hr11d hrX hbl hb256 hkd hkd' hbody hkb hbq
          go_wp2_with fail
          go_region_with (go_at_call 15; refine C.out.mono ?_; rintro e w8 ⟨A8, c8, rfl, hown8, hB8⟩; have R8 := Lib.hid (Rd.of_own hown8); have HB8 := Lib.hid hB8; have kc8 : w8.cell? ⟨b, off + 2, none⟩ = some (.int .u8 (kd : Nat)) := (hB8.cell (p := ⟨b, off + 2, none⟩) (Nat.lt_of_lt_of_le hb HD.out.size)).trans kc; clear hown8 hB8)
          all_goals
            have HB8w := Lib.hid ((HD.out.trans (Below.refl _ _).drew).trans (HB8.out.mono HD.out.size))
            have RX8 := Lib.hid (RX.out.below HB8w.out)
            have k1 := run_str_drewN R8.out c8
            have k2 := run_str_drewN RX8.out c
            by_cases hW : F.wrap kd body = l.take (11 + N)
            · have g : ((str8 (F.wrap kd body)).toList == (str8 (l.take (11 + N))).toList) = true := by rw [HBQ.out]; simpa using hW
              have V0 : Hid (F.verdict l = 0) := Lib.hid (by rw [V.out, ← HKD.out, ← HBO.out, ← HN2.out, if_pos hW])
              clear hW kc kc8
              go_wp2_with fail
              go_quiet (fail)
              have HD8 := Lib.hid (below_draws HB8w.out nq)
              clear k1 k2 g
              generalize w8.drewN nq = wd8 at *
              have kcd : wd8.drew.cell? ⟨b, off + 2, none⟩ = some (.int .u8 (kd : Nat)) := (HD8.out.cell (p := ⟨b, off + 2, none⟩) hb).trans HKC.out
              have HDA : Hid (Below w.heap.size w (wd8.drew.alloc (.cells #[] 5))) := Lib.hid (HD8.out.drew.alloc HD8.out.size _)
              have kca : (wd8.drew.alloc (.cells #[] 5)).cell? ⟨b, off + 2, none⟩ = some (.int .u8 (kd : Nat)) := (HDA.out.cell (p := ⟨b, off + 2, none⟩) hb).trans HKC.out
              have kca2 : (wd8.alloc (.cells #[] 5)).cell? ⟨b, off + 2, none⟩ = some (.int .u8 (kd : Nat)) := kca
              have RA := Lib.hid (R11.out.below HDA.out)
              have OE := Lib.hid (own_empty wd8.drew w.heap.size 5 1 HD8.out.size)
              go_wp2_with fail
              go_region_law (first
                | (refine step_app _ rfl (.tmp 115) (.tmp 119) 22 rfl w w.heap.size 5 (.int .u8 0) 1 1 Try.underlying22 info5 rfl (by decide) _ 0 [] rfl OE.out w.heap.size A11 N _ (by8 body) rfl RA.out (by8_one _) (by unfold maxLen; omega) (by omega) HDA.out (Nat.le_refl _) ?_; intro A9 c9 w9 hown9 hg9 hB9; have O9 := Lib.hid hown9; have HB9 := Lib.hid hB9; have kc9 : w9.cell? ⟨b, off + 2, none⟩ = some (.int .u8 (kd : Nat)) := (hB9.cell (p := ⟨b, off + 2, none⟩) hb).trans HKC.out; clear hown9 hg9 hB9)
                | go_simp)
              all_goals
                go_wp2_with fail
                refine bodyPost_ret (results_tmp4 rfl _ _ _) rfl ?_
                have o := O9.out
                rw [Nat.zero_add, List.nil_append] at o
                exact TakeRet.good (K := kd) (N := N) (T := 11 + (N : Int)) V0.out HKD.out HBO.out HBL.out (by rw [← HN2.out]; omega) o HB9.out
            · have g : ((str8 (F.wrap kd body)).toList == (str8 (l.take (11 + N))).toList) = false := by rw [HBQ.out]; simpa using hW
              have V1 : Hid (F.verdict l = 1) := Lib.hid (by rw [V.out, ← HKD.out, ← HBO.out, ← HN2.out, if_neg hW])
              clear hW kc kc8
              go_wp2_with fail
              go_quiet (fail)
              have HD8 := Lib.hid (below_draws HB8w.out nq)
              go_wp2_with fail
              refine bodyPost_ret (results_tmp4 rfl _ _ _) rfl ?_
              exact TakeRet.bad (.inl ⟨V1.out, rfl⟩) HD8.out
    · have V : Hid (F.verdict l = 1) := Lib.hid (v_mark (fun hm => h84 (HMK.out.1 hm).2))
      obtain ⟨g3, g4⟩ := bool_ne (a := (x1 : Int)) (b := 84) (by omega)
      clear h83 h84
      go_enter Try.func17, Try.ntmps17
      go_wp2_with fail
      refine bodyPost_ret (results_tmp4 rfl _ _ _) rfl ?_
      exact TakeRet.bad (.inl ⟨V.out, rfl⟩) (Below.refl _ _)
  · have V : Hid (F.verdict l = 1) := Lib.hid (v_mark (fun hm => h83 (HMK.out.1 hm).1))
    obtain ⟨g1, g2⟩ := bool_ne (a := (x0 : Int)) (b := 83) (by omega)
    clear h83
    go_enter Try.func17, Try.ntmps17
    go_wp2_with fail
    refine bodyPost_ret (results_tmp4 rfl _ _ _) rfl ?_
    exact TakeRet.bad (.inl ⟨V.out, rfl⟩) (Below.refl _ _)

theorem rtake_any {w : World} {A : Option Addr} {n c : Nat} {l : List Nat} (h : Rd w w.heap.size 1 A n (by8 l)) (hl : ∀ x ∈ l, x < 256) (hn2 : n ≤ 1000000) (hc : n ≤ c) (hcm : c ≤ maxLen) :
    Calls Try.prog 17 #[.slice A n c] w (TakeRet l w) := by
  by_cases hn : n < 7
  · exact rtake_short h hl hn
  · exact rtake_seven h hl (by omega) hn2 hc hcm
end Go.Proofs.Ytfbiobglckjilaa
