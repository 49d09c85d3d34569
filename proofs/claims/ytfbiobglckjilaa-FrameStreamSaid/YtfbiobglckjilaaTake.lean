/-
  The walk of Take.
-/
import Derived.Test.YtfbiobglckjilaaRWrap
import Derived.Test.YtfbiobglckjilaaTakeLaw
namespace Go.Proofs.Ytfbiobglckjilaa
open Go Go.RowKit
set_option linter.unusedVariables false

theorem results_tmp4 {fn : Func} {t u v x : Tmp} (h : fn.results = #[.tmp t, .tmp u, .tmp v, .tmp x]) (tmps : Array Value) (P : Program) (w : World) :
    (results fn tmps).run P w = .ok (.tuple #[tmps.getD t undef, tmps.getD u undef, tmps.getD v undef, tmps.getD x undef]) w := by
  simp [results, h]

theorem none_any (e : Int) (w : World) : Calls Try.prog 22 #[.int .i64 e] w fun r w' => r = .returned (.tuple #[.int .u8 0, .slice none 0 0, .int .i64 0, .int .i64 e]) ∧ w = w' := by
  go_enter Try.func22, Try.ntmps22
  go_wp2
  refine bodyPost_ret (results_tmp4 rfl _ _ _) rfl ?_
  exact ⟨rfl, rfl⟩

/-- the answer of Take -/
def TakeRet (l : List Nat) (w : World) (e : Ending) (w' : World) : Prop :=
  ∃ A c, e = .returned (.tuple #[.int .u8 (F.tKind l : Nat), .slice A (F.tBody l).length c, .int .i64 (F.tLen l : Nat), .int .i64 (F.tErr l)]) ∧
    w'.ownsRow w.heap.size 5 1 (.slice A (F.tBody l).length c) (F.tBody l).length (by8 (F.tBody l)) ∧ Below w.heap.size w w'

theorem TakeRet.bad {l : List Nat} {w w' : World} {e : Int} (h : (F.verdict l = 1 ∧ e = 51) ∨ (F.verdict l = 2 ∧ e = 52)) (hb : Below w.heap.size w w') :
    TakeRet l w (.returned (.tuple #[.int .u8 0, .slice none 0 0, .int .i64 0, .int .i64 e])) w' := by
  rcases h with ⟨h, rfl⟩ | ⟨h, rfl⟩
  all_goals
    have hb0 : F.tBody l = [] := by simp [F.tBody, h]
    refine ⟨none, 0, ?_, ?_, hb⟩
    · simp [F.tKind, F.tLen, F.tErr, hb0, h]
    · rw [hb0]; exact World.ownsRow_nil _ _ _ _

theorem TakeRet.good {l body : List Nat} {w w' : World} {K N c : Nat} {A : Option Addr} {T : Int} (h : F.verdict l = 0) (hK : K = F.kindOf l) (hb : body = F.bodyOf l) (hN : body.length = N) (hT : T = ((11 + F.long l : Nat) : Int))
    (hown : w'.ownsRow w.heap.size 5 1 (.slice A N c) N (by8 body)) (hbel : Below w.heap.size w w') :
    TakeRet l w (.returned (.tuple #[.int .u8 (K : Int), .slice A N c, .int .i64 T, .int .i64 0])) w' := by
  subst hK hb hN hT
  have e : F.tBody l = F.bodyOf l := by simp [F.tBody, h]
  refine ⟨A, c, ?_, ?_, hbel⟩
  · simp [F.tKind, F.tLen, F.tErr, e, h]
  · rw [e]; exact hown

theorem wpList_copy_rd {w : World} {ops : Array Oper} {rest : List Oper} {o : Oper} {a : Act} {Q : Exit → Act → World → Prop} (hgd : o.guard = none) (s x : Operand)
    (ho : o.op = .call { callee := .builtin .copy, args := #[s, x], argTypes := #[22, 22] })
    {g N C : Nat} {l : List Nat} (hs : a.eval s = .slice (some ⟨g, 0, none⟩) N C) (hr : Row w g N C l)
    {B m c : Nat} {A : Option Addr} {t : List Nat} (hx : a.eval x = .slice A m c) (hrd : Rd w B 1 A m (by8 t)) (hm : m ≤ N)
    (h : ∀ w', Row w' g N C (ovr l 0 t) → w.grownBy w' (some g) → wpList Try.prog ops Q rest (a.put o.dst (goInt m)) w') : wpList Try.prog ops Q (o :: rest) a w := by
  have hlen : t.length = m := by simpa [by8_len] using hrd.len1
  obtain ⟨w', h1, h2, h3⟩ := row_of_heap (w' := w) hr t (by omega)
  have hrun : (Builtin.copy_ #[22, 22] o.type #[.slice (some ⟨g, 0, none⟩) N C, .slice A m c]).run Try.prog w = .ok (goInt m) w' := by
    obtain ⟨i, hi, hz, hsz, hb⟩ := info_parts info5
    have hmin : Nat.min m N = m := Nat.min_eq_left hm
    have hload : (Builtin.firstCells 1 m (.slice A m c)).run Try.prog w = .ok (by8 t).toArray w := by
      rcases Nat.eq_zero_or_pos m with h0 | h0
      · subst h0
        have ht : t = [] := List.eq_nil_of_length_eq_zero hlen
        subst ht
        cases A with
        | none => simp [Builtin.firstCells, by8]
        | some a => simp [Builtin.firstCells, loadCells, loadCellsFrom, by8]
      · obtain ⟨b, off, rfl, _, hc⟩ := hrd.at_ h0
        have := run_loadCells_list (P := Try.prog) w ⟨b, off, none⟩ (by8 t) (fun j v hj => by rw [addr_add]; exact hc j v hj)
        simp only [Builtin.firstCells, Nat.mul_one]
        rwa [by8_len, hlen] at this
    simp [Builtin.copy_, run_underlying Try.underlying22, Builtin.lenOf, sizeOf, typeInfo, hi, hsz, hmin, hload, h1]
  refine wpList_plain hgd fun K hK => ?_
  unfold Oper.wp
  simp [execOp, ho, resolve, invoke, builtin, hs, hx, hrun, Result.andThen]
  exact hK _ _ (h w' h2 h3)

theorem row_make4 (w : World) : Row (w.alloc (.cells (madeCells #[.int .u8 0] 4) 5)) w.heap.size 4 4 [0, 0, 0, 0] := by
  refine ⟨⟨by simp [by8], .inr ⟨w.heap.size, 4, _, rfl, Nat.zero_le _, heap_alloc_new w _, by omega, by unfold maxLen; omega, by rw [size_madeCells], ?_⟩⟩⟩
  rw [toList_madeCells_one]
  rfl
theorem make4 (W : World) : (Instr.makeSlice 22 (.int .i64 4) (.int .i64 4)).run Try.prog W = .ok (.slice (some ⟨W.heap.size, 0, none⟩) 4 4) (W.alloc (.cells (madeCells #[.int .u8 0] 4) 5)) := by
  obtain ⟨i, hi, hz, hsz, hb⟩ := info_parts info5
  have := run_make (P := Try.prog) W 22 5 i (.int .u8 0) Try.underlying22 hi hz .i64 .i64 4 4 (by omega) (by omega) (by rw [hb]; omega) (by omega)
  rw [hsz] at this
  exact this

theorem getD_ovr (t : List Nat) (i : Nat) (ht : t.length ≤ 4) (hi : i < 4) : (ovr [0, 0, 0, 0] 0 t).getD i 0 = t.getD i 0 := by
  match t, ht with
  | [], _ => match i, hi with | 0, _ | 1, _ | 2, _ | 3, _ => rfl
  | [a], _ => match i, hi with | 0, _ | 1, _ | 2, _ | 3, _ => rfl
  | [a, b], _ => match i, hi with | 0, _ | 1, _ | 2, _ | 3, _ => rfl
  | [a, b, c], _ => match i, hi with | 0, _ | 1, _ | 2, _ | 3, _ => rfl
  | [a, b, c, d], _ => match i, hi with | 0, _ | 1, _ | 2, _ | 3, _ => rfl
theorem un4_long (l : List Nat) : un4 (ovr [0, 0, 0, 0] 0 ((l.drop 3).take 4)) = F.long l := by
  have h : ((l.drop 3).take 4).length ≤ 4 := List.length_take_le _ _
  unfold un4 F.long
  rw [getD_ovr _ 0 h (by omega), getD_ovr _ 1 h (by omega), getD_ovr _ 2 h (by omega), getD_ovr _ 3 h (by omega)]
  simp [List.getD_eq_getElem?_getD, List.getElem?_drop]

theorem slice_long {l : List Nat} {n lo hi : Nat} (hlen : l.length = n) (a1 : lo ≤ 3) (a2 : lo ≤ n) (a3 : lo = 3 ∨ lo = n) (b1 : hi ≤ 7) (b2 : hi ≤ n) (b3 : hi = 7 ∨ hi = n) : (l.drop lo).take (hi - lo) = (l.drop 3).take 4 := by
  by_cases h3 : n ≤ 3
  · have e2 : hi - lo = 0 := by omega
    have e3 : l.drop 3 = [] := List.drop_eq_nil_of_le (by omega)
    rw [e2, e3]
    simp
  · have e3 : lo = 3 := by omega
    subst e3
    rcases b3 with rfl | rfl
    · rfl
    · rw [List.take_of_length_le (by simp; omega), List.take_of_length_le (by simp; omega)]

theorem mark_str (m : Nat) (h : m ≤ 2) : (⟨#[83, 84]⟩ : ByteArray).extract 0 m = str8 ([83, 84].take m) := by
  match m, h with
  | 0, _ => decide
  | 1, _ => decide
  | 2, _ => decide

set_option maxRecDepth 100000 in
set_option maxHeartbeats 1000000 in
theorem take_any {w : World} {A : Option Addr} {n c : Nat} {l : List Nat} (h : Rd w w.heap.size 1 A n (by8 l)) (hl : ∀ x ∈ l, x < 256) (hn : n ≤ 1000000) (hc : n ≤ c) (hcm : c ≤ maxLen) :
    Calls Try.prog 16 #[.slice A n c] w (TakeRet l w) := by
  have hlen : l.length = n := by simpa [by8_len] using h.len1
  have HL := Lib.hid hlen
  have HB := Lib.hid hl
  have H := Lib.hid h
  obtain ⟨m, hm⟩ : ∃ m : Nat, (if (2 : Int) < (n : Int) then (2 : Int) else (n : Int)) = (m : Int) ∧ m ≤ 2 ∧ m ≤ n ∧ (m = 2 ∨ m = n) := by
    by_cases h2 : 2 < n
    · exact ⟨2, by rw [if_pos (by omega)]; rfl, by omega, by omega, by omega⟩
    · exact ⟨n, by rw [if_neg (by omega)], by omega, by omega, by omega⟩
  obtain ⟨lo, hlo⟩ : ∃ m : Nat, (if (3 : Int) < (n : Int) then (3 : Int) else (n : Int)) = (m : Int) ∧ m ≤ 3 ∧ m ≤ n ∧ (m = 3 ∨ m = n) := by
    by_cases h2 : 3 < n
    · exact ⟨3, by rw [if_pos (by omega)]; rfl, by omega, by omega, by omega⟩
    · exact ⟨n, by rw [if_neg (by omega)], by omega, by omega, by omega⟩
  obtain ⟨hi, hhi⟩ : ∃ m : Nat, (if (7 : Int) < (n : Int) then (7 : Int) else (n : Int)) = (m : Int) ∧ m ≤ 7 ∧ m ≤ n ∧ (m = 7 ∨ m = n) := by
    by_cases h2 : 7 < n
    · exact ⟨7, by rw [if_pos (by omega)]; rfl, by omega, by omega, by omega⟩
    · exact ⟨n, by rw [if_neg (by omega)], by omega, by omega, by omega⟩
  obtain ⟨hm0, hm1, hm2, hm3⟩ := hm
  obtain ⟨hlo0, hlo1, hlo2, hlo3⟩ := hlo
  obtain ⟨hhi0, hhi1, hhi2, hhi3⟩ := hhi
  have hlh : lo ≤ hi := by omega
  have hd4 : hi - lo ≤ 4 := by omega
  have ht2 : l.take m = l.take 2 := by
    rcases hm3 with rfl | rfl
    · rfl
    · rw [List.take_of_length_le (by omega), List.take_of_length_le (by omega)]
  have hr2 := h.take1 (k := m) hm2
  have htk : (by8 l).take m = by8 (l.take m) := by simp [by8, List.map_take]
  rw [htk] at hr2
  have k1 := run_str_drewN hr2 c
  have hr3 : Rd w w.heap.size 1 (if c = lo then A else A.map (·.add lo)) (hi - lo) (by8 ((l.drop 3).take 4)) := by
    have d := (h.drop1 (k := lo) (c := c) hlo2 hc).take1 (k := hi - lo) (by omega)
    have e : ((by8 l).drop lo).take (hi - lo) = by8 ((l.drop 3).take 4) := by
      have e1 := slice_long hlen hlo1 hlo2 hlo3 hhi1 hhi2 hhi3
      rw [← e1]
      simp [by8, List.map_take, List.map_drop]
    rw [e] at d
    exact d
  obtain ⟨A', hA'⟩ : ∃ A', (if c = lo then A else A.map (·.add lo)) = A' := ⟨_, rfl⟩
  rw [hA'] at hr3
  have R3w := Lib.hid hr3
  have hbq := str8_beq (l := l.take m) (l' := [83, 84].take m) (fun y hy => HB.out y (List.mem_of_mem_take hy)) (fun y hy => by have := List.mem_of_mem_take hy; simp at this; omega)
  have hmk : F.marked l ↔ l.take m = [83, 84].take m := by
    unfold F.marked
    rw [ht2, HL.out]
    rcases hm3 with rfl | rfl
    · rw [List.take_of_length_le (l := [83, 84]) (i := n) (by simp; omega), List.take_of_length_le (l := [83, 84]) (i := 2) (by simp)]
    · rfl
  clear hlen hl h hr2 htk ht2 hr3 hm3 hlo3 hhi3
  unfold maxLen at hcm
  have hmk4 := make4
  by_cases hM : l.take m = [83, 84].take m
  · have g : ((str8 (l.take m)).toList == ((⟨#[83, 84]⟩ : ByteArray).extract 0 m).toList) = true := by rw [mark_str m hm1, hbq]; simpa using hM
    have HM := Lib.hid (hmk.2 hM)
    clear hbq hmk hM
    go_enter Try.func16, Try.ntmps16
    go_wp2_with fail
    go_quiet (fail)
    have HD := Lib.hid (below_draws (Below.refl w.heap.size w) nq)
    have R3 := Lib.hid (R3w.out.below HD.out)
    have RM := Lib.hid (row_make4 (w.drewN nq))
    clear k1 R3w
    generalize w.drewN nq = wd at *
    go_wp2_with (refine wpList_copy_rd rfl (.tmp 28) (.tmp 36) rfl rfl RM.out rfl (R3.out.alloc HD.out.size _) (by omega) ?_)
    intro w4 hr4 hg4
    have R4 := Lib.hid hr4.rd
    have HD4 := Lib.hid ((HD.out.alloc HD.out.size _).grown hg4 (by have := HD.out.size; simp; omega) (fun k hk => by cases hk; exact HD.out.size))
    have h4b : ∀ x ∈ ovr [0, 0, 0, 0] 0 ((l.drop 3).take 4), x < 256 := by
      intro x hx
      rcases List.mem_append.1 hx with h1 | h1
      · simp at h1
      · rcases List.mem_append.1 h1 with h2 | h2
        · exact HB.out x (List.mem_of_mem_drop (List.mem_of_mem_take h2))
        · have := List.mem_of_mem_drop h2
          simp at this
          omega
    have H4B := Lib.hid h4b
    clear hr4 hg4 h4b R3 RM HD
    go_wp2_with fail
    refine (get_any R4.out H4B.out (by omega)).mono ?_
    rintro e w' ⟨rfl, rfl⟩
    rw [un4_long]
    obtain ⟨N, hN⟩ : ∃ N, N = F.long l := ⟨_, rfl⟩
    rw [← hN]
    have HN := Lib.hid hN
    clear hN hA' hlo0 hlo1 hlo2 hhi0 hhi1 hhi2 hlh hd4 hm0 hm1 hm2 hmk4 R4 H4B
    by_cases hbig : 65536 < N
    · have V1 : Hid (F.verdict l = 1) := Lib.hid (by unfold F.verdict; rw [if_neg (fun h => h HM.out), if_pos (by rw [← HN.out]; exact hbig)])
      go_wp2_with fail
      refine (none_any 51 _).mono ?_
      rintro e w' ⟨rfl, rfl⟩
      go_wp2_with fail
      refine bodyPost_ret (results_tmp4 rfl _ _ _) rfl ?_
      exact TakeRet.bad (.inl ⟨V1.out, rfl⟩) HD4.out
    · have V0 := Lib.hid (fun (h : l.length < 7 ∨ l.length < 11 + N) => (show F.verdict l = 2 by
        unfold F.verdict; rw [if_neg (fun h => h HM.out), if_neg (by rw [← HN.out]; exact hbig), if_pos (by rw [← HN.out]; exact h)]))
      by_cases h7 : n < 7
      · go_wp2_with fail
        refine (none_any 52 _).mono ?_
        rintro e w' ⟨rfl, rfl⟩
        go_wp2_with fail
        refine bodyPost_ret (results_tmp4 rfl _ _ _) rfl ?_
        exact TakeRet.bad (.inr ⟨V0.out (.inl (by rw [HL.out]; exact h7)), rfl⟩) HD4.out
      · by_cases h11 : n < 11 + N
        · go_wp2_with fail
          refine (none_any 52 _).mono ?_
          rintro e w' ⟨rfl, rfl⟩
          go_wp2_with fail
          refine bodyPost_ret (results_tmp4 rfl _ _ _) rfl ?_
          exact TakeRet.bad (.inr ⟨V0.out (.inr (by rw [HL.out]; exact h11)), rfl⟩) HD4.out
        · obtain ⟨b, off, rfl, hb, hcell⟩ := H.out.at_ (by omega)
          obtain ⟨X, hX⟩ : ∃ X, X = l.take (11 + N) := ⟨_, rfl⟩
          have hXl : X.length = 11 + N := by rw [hX, List.length_take, HL.out]; omega
          have hX256 : ∀ x ∈ X, x < 256 := fun x hx => HB.out x (List.mem_of_mem_take (hX ▸ hx))
          have hrX : Rd w w.heap.size 1 (some ⟨b, off, none⟩) (11 + N) (by8 X) := by
            have := H.out.take1 (k := 11 + N) (by omega)
            have e : (by8 l).take (11 + N) = by8 X := by rw [hX]; simp [by8, List.map_take]
            rwa [e] at this
          have hr7 := hrX.drop1 (k := 7) (c := c) (by omega) (by omega)
          rw [if_neg (by omega)] at hr7
          have e7 : (by8 X).drop 7 = by8 (X.drop 7) := by simp [by8, List.map_drop]
          rw [e7] at hr7
          simp only [Option.map_some, addr_add] at hr7
          obtain ⟨p, hp⟩ : ∃ p, p = un4 (X.drop 7) := ⟨_, rfl⟩
          obtain ⟨q, hq⟩ : ∃ q, q = F.sum (sumOf X) := ⟨_, rfl⟩
          have hfit : p = q ↔ F.wrap (F.kindOf l) (F.bodyOf l) = l.take (11 + F.long l) := by
            have := F.sum_fits HB.out HM.out (by rw [HL.out, ← HN.out]; omega)
            rw [← HN.out, ← hX] at this
            rw [← HN.out, ← hX, hp, hq]
            exact this
          have V := Lib.hid (show F.verdict l = if F.wrap (F.kindOf l) (F.bodyOf l) = l.take (11 + F.long l) then 0 else 1 by
            unfold F.verdict; rw [if_neg (fun h => h HM.out), if_neg (by rw [← HN.out]; exact hbig), if_neg (by rw [HL.out, ← HN.out]; omega)])
          have R7 := Lib.hid (hr7.below HD4.out)
          have RX := Lib.hid (hrX.below HD4.out)
          have HP := Lib.hid hp
          have HQ := Lib.hid hq
          have HX256 := Lib.hid hX256
          have H7256 := Lib.hid (fun x hx => hX256 x (List.mem_of_mem_drop hx) : ∀ x ∈ X.drop 7, x < 256)
          have HXL := Lib.hid hXl
          have HX := Lib.hid hX
          have hSl : (sumOf X).length = 5 + N := by simp [sumOf]; omega
          have HSL := Lib.hid hSl
          have hlt : n ≤ 140737488351232 := by omega
          clear hp hq hX hXl hX256 hrX hr7 e7 hSl V0
          have hkc : w.cell? ⟨b, off + 2, none⟩ = some (.int .u8 (F.kindOf l : Nat)) := by
            refine hcell 2 _ ?_
            have h2 : 2 < l.length := by rw [HL.out]; omega
            simp [by8, F.kindOf, List.getD_eq_getElem?_getD, List.getElem?_eq_getElem h2]
          have HKC := Lib.hid hkc
          obtain ⟨A11, hA11⟩ : ∃ A', (if c = 11 then some (⟨b, off, none⟩ : Addr) else some ⟨b, off + 11, none⟩) = A' := ⟨_, rfl⟩
          have hr11 : Rd w w.heap.size 1 A11 N (by8 (F.bodyOf l)) := by
            have d := (RX.out)
            have d2 := (H.out.take1 (k := 11 + N) (by omega)).drop1 (k := 11) (c := c) (by omega) (by omega)
            have e : ((by8 l).take (11 + N)).drop 11 = by8 (F.bodyOf l) := by
              unfold F.bodyOf
              rw [← HN.out, List.drop_take, show 11 + N - 11 = N by omega]
              simp [by8, List.map_take, List.map_drop]
            rw [e, show 11 + N - 11 = N by omega] at d2
            simp only [Option.map_some, addr_add] at d2
            rwa [hA11] at d2
          have hA11n : A11 = none → N = 0 := by rw [← hA11]; split <;> simp
          have R11 := Lib.hid hr11
          have HAN := Lib.hid hA11n
          have hbl : (F.bodyOf l).length = N := by simpa [by8_len] using hr11.len1
          have HBL := Lib.hid hbl
          have i11 : (11 : Int) ≤ 11 + (N : Int) := by omega
          have i11c : 11 + (N : Int) ≤ (c : Int) := by omega
          have e11 : (11 : Nat) + N - 11 = N := by omega
          clear hcell hkc hr11 hA11n hbl
          go_wp2_with fail
          refine (get_any R7.out H7256.out (by omega)).mono ?_
          rintro e w' ⟨rfl, rfl⟩
          rw [← HP.out]
          go_wp2_with fail
          refine (summed_any (RX.out.more HD4.out.size) (by omega) (by omega) (by unfold maxLen; omega) (by omega)).mono ?_
          rintro e w6 h6
          obtain ⟨A6, c6, rfl, hown6, hB6⟩ := h6.to HSL.out
          have R6 := Lib.hid (Rd.of_own hown6)
          have HB6 := Lib.hid (HD4.out.trans (hB6.mono HD4.out.size))
          clear h6 hown6 hB6
          go_wp2_with fail
          refine (sum_any R6.out (sumOf_lt HX256.out) (by unfold maxLen; omega)).mono ?_
          rintro e w7 ⟨rfl, hB7⟩
          rw [← HQ.out]
          have HB7 := Lib.hid (HB6.out.trans (hB7.mono HB6.out.size))
          clear hB7
          by_cases hpq : p = q
          · have V00 : Hid (F.verdict l = 0) := Lib.hid (by rw [V.out, if_pos (hfit.1 hpq)])
            have g1 : ((p : Int) == (q : Int)) = true := by simp [hpq]
            have g2 : ((p : Int) != (q : Int)) = false := by simp [hpq]
            clear hpq hfit
            have R11' : Hid (Rd w7.drew w7.drew.heap.size 1 A11 N (by8 (F.bodyOf l))) := by
              exact Lib.hid ((R11.out.below HB7.out).more HB7.out.size)
            have C := Lib.hid ((clone_any (c := c - 11) R11'.out (by omega) HAN.out).mono fun _ _ h => h.to HBL.out)
            have kc : w7.drew.cell? ⟨b, off + 2, none⟩ = some (.int .u8 (F.kindOf l : Nat)) := (HB7.out.cell (p := ⟨b, off + 2, none⟩) hb).trans HKC.out
            go_wp2_with fail
            go_region_with (go_at_call 24; refine C.out.mono ?_; rintro e w8 ⟨A8, c8, rfl, hown8, hB8⟩; have O8 := Lib.hid hown8; have HB8 := Lib.hid hB8; have kc8 : w8.cell? ⟨b, off + 2, none⟩ = some (.int .u8 (F.kindOf l : Nat)) := (hB8.cell (p := ⟨b, off + 2, none⟩) (Nat.lt_of_lt_of_le hb HB7.out.size)).trans kc; clear hown8 hB8)
            all_goals
              go_wp2_with fail
              refine bodyPost_ret (results_tmp4 rfl _ _ _) rfl ?_
              exact TakeRet.good V00.out rfl rfl HBL.out (by rw [← HN.out]; omega) (own_base O8.out HB7.out.size) ((HB7.out.trans (Below.refl _ _).drew).trans (HB8.out.mono HB7.out.size))
          · have V01 : Hid (F.verdict l = 1) := Lib.hid (by rw [V.out, if_neg (fun h => hpq (hfit.2 h))])
            have g1 : ((p : Int) == (q : Int)) = false := by simpa using (by omega : ¬ (p : Int) = q)
            have g2 : ((p : Int) != (q : Int)) = true := by rw [bne, g1]; rfl
            clear hpq hfit
            go_wp2_with fail
            refine (none_any 51 _).mono ?_
            rintro e w' ⟨rfl, rfl⟩
            go_wp2_with fail
            refine bodyPost_ret (results_tmp4 rfl _ _ _) rfl ?_
            exact TakeRet.bad (.inl ⟨V01.out, rfl⟩) HB7.out
  · have g : ((str8 (l.take m)).toList == ((⟨#[83, 84]⟩ : ByteArray).extract 0 m).toList) = false := by rw [mark_str m hm1, hbq]; simpa using hM
    have V1 : Hid (F.verdict l = 1) := Lib.hid (by unfold F.verdict; rw [if_pos (fun h => hM (hmk.1 h))])
    clear hbq hmk hM
    go_enter Try.func16, Try.ntmps16
    go_wp2_with fail
    go_quiet (fail)
    have HD := Lib.hid (below_draws (Below.refl w.heap.size w) nq)
    go_wp2_with fail
    refine (none_any 51 _).mono ?_
    rintro e w' ⟨rfl, rfl⟩
    go_wp2_with fail
    refine bodyPost_ret (results_tmp4 rfl _ _ _) rfl ?_
    exact TakeRet.bad (.inl ⟨V1.out, rfl⟩) HD.out
end Go.Proofs.Ytfbiobglckjilaa
