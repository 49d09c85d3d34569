/-
  The walk of Wrap.
-/
import Derived.Test.YtfbiobglckjilaaSummed
namespace Go.Proofs.Ytfbiobglckjilaa
open Go Go.RowKit
set_option linter.unusedVariables false

theorem row_make (w : World) (n : Nat) (hn : n ≤ 65536) : Row (w.alloc (.cells (madeCells #[.int .u8 0] (11 + n)) 5)) w.heap.size 11 (11 + n) (List.replicate 11 0) := by
  refine ⟨⟨by simp [by8], .inr ⟨w.heap.size, 11 + n, _, rfl, Nat.zero_le _, heap_alloc_new w _, by omega, by unfold maxLen; omega, by rw [size_madeCells]; simp, ?_⟩⟩⟩
  rw [toList_madeCells_one, List.take_replicate, Nat.min_eq_left (by omega)]
  simp [by8]

theorem row_of_heap {w w' : World} {g N C : Nat} {l : List Nat} (h : Row w g N C l) (t : List Nat) (ht : t.length ≤ N) :
    ∃ w', (storeCells ⟨g, 0, none⟩ (by8 t) 0).run Try.prog w = .ok () w' ∧ Row w' g N C (ovr l 0 t) ∧ w.grownBy w' (some g) := by
  rcases h.own.2 with ⟨hv, _⟩ | ⟨g', cap, cur, hv, hg0, hg, hnc, hcm, hcs, htake⟩
  · cases hv
  · simp only [Value.slice.injEq, Option.some.injEq, Addr.mk.injEq, and_true, true_and] at hv
    obtain ⟨rfl, rfl⟩ := hv
    have hlen := h.len
    have hr := run_storeCells_at Try.prog g 0 5 (by8 t) 0 cur w hg (by rw [by8_len]; omega) (by8_one t)
    refine ⟨_, hr, ⟨⟨by rw [by8_len, ovr_len _ _ _ (by omega)]; omega, .inr ⟨g, C, _, rfl, hg0, setRow_heap w g cur _ 5 _ hg, hnc, hcm, ?_, ?_⟩⟩⟩, ⟨rfl, rfl, rfl, by simp [World.setRow], fun k _ hk => setRow_other w g k _ (fun e => hk (by simp [e]))⟩⟩
    · simp [by8_len]; omega
    · rw [Nat.mul_one] at htake
      simp only [Nat.mul_one]
      simp only [Nat.zero_add, List.take_zero, List.nil_append, ovr, by8_append]
      rw [List.take_append, by8_len]
      congr 1
      · exact List.take_of_length_le (by rw [by8_len]; exact ht)
      · have : by8 (l.drop t.length) = (by8 l).drop t.length := by simp [by8, List.map_drop]
        rw [this, ← htake, List.drop_take]

theorem wpList_copy_st {w : World} {ops : Array Oper} {rest : List Oper} {o : Oper} {a : Act} {Q : Exit → Act → World → Prop} (hgd : o.guard = none) (s : Operand)
    (ho : o.op = .call { callee := .builtin .copy, args := #[s, .const (.string ⟨#[83, 84]⟩)], argTypes := #[22, 9] })
    {g N C : Nat} {l : List Nat} (hs : a.eval s = .slice (some ⟨g, 0, none⟩) N C) (hr : Row w g N C l) (hN : 2 ≤ N)
    (h : ∀ w', Row w' g N C (ovr l 0 [83, 84]) → w.grownBy w' (some g) → wpList Try.prog ops Q rest (a.put o.dst (goInt 2)) w') : wpList Try.prog ops Q (o :: rest) a w := by
  obtain ⟨w', h1, h2, h3⟩ := row_of_heap (w' := w) hr [83, 84] hN
  have hrun : (Builtin.copy_ #[22, 9] o.type #[.slice (some ⟨g, 0, none⟩) N C, .string ⟨#[83, 84]⟩]).run Try.prog w = .ok (goInt 2) w' := by
    obtain ⟨i, hi, hz, hsz, hb⟩ := info_parts info5
    have hmin : Nat.min (⟨#[83, 84]⟩ : ByteArray).size N = 2 := by
      show Nat.min 2 N = 2
      exact Nat.min_eq_left hN
    have h1' : (storeCells ⟨g, 0, none⟩ [.int .u8 83, .int .u8 84] 0).run Try.prog w = .ok () w' := h1
    simp [Builtin.copy_, run_underlying Try.underlying22, Builtin.lenOf, Builtin.firstCells, sizeOf, typeInfo, hi, hmin]
    rw [h1']
    rfl
  have hst : a.eval (.const (.string ⟨#[83, 84]⟩)) = .string ⟨#[83, 84]⟩ := rfl
  refine wpList_plain hgd fun K hK => ?_
  unfold Oper.wp
  simp [execOp, ho, resolve, invoke, builtin, hs, hst, hrun, Result.andThen]
  exact hK _ _ (h w' h2 h3)

theorem wrap_plain (kind : Nat) (l : List Nat) :
    ovr (ovr (((ovr (List.replicate 11 0) 0 [83, 84]).set 2 kind)) 3 (F.four l.length) ++ l) 7 (F.four (F.sum (sumOf (ovr (((ovr (List.replicate 11 0) 0 [83, 84]).set 2 kind)) 3 (F.four l.length) ++ l)))) = F.wrap kind l := by
  have e1 : ovr (((ovr (List.replicate 11 0) 0 [83, 84]).set 2 kind)) 3 (F.four l.length) = [83, 84] ++ (F.head kind l ++ [0, 0, 0, 0]) := by rfl
  rw [e1]
  have e2 : sumOf ([83, 84] ++ (F.head kind l ++ [0, 0, 0, 0]) ++ l) = F.head kind l ++ l := by rfl
  rw [e2]
  simp [ovr, F.wrap, F.head, F.four]

/-- the answer of Wrap -/
def WrapRet (kind : Nat) (l : List Nat) (w : World) (e : Ending) (w' : World) : Prop :=
  ∃ A c, e = .returned (.tuple #[.slice A (11 + l.length) c, .int .i64 0]) ∧ w'.ownsRow w.heap.size 5 1 (.slice A (11 + l.length) c) (11 + l.length) (by8 (F.wrap kind l)) ∧ Below w.heap.size w w'

theorem Row.base {w : World} {g N C : Nat} {l : List Nat} (h : Row w g N C l) {B : Nat} (hB : B ≤ g) : w.ownsRow B 5 1 (.slice (some ⟨g, 0, none⟩) N C) N (by8 l) := by
  refine ⟨h.own.1, ?_⟩
  rcases h.own.2 with ⟨hv, _⟩ | ⟨g', cap, cur, hv, h1, h2⟩
  · cases hv
  · refine .inr ⟨g', cap, cur, hv, ?_, h2⟩
    injection hv with hA
    injection hA with hA
    injection hA with hg'
    omega
theorem row_of_own {w : World} {B N C : Nat} {A : Option Addr} {l : List Nat} (h : w.ownsRow B 5 1 (.slice A N C) N (by8 l)) (hN : 0 < N) : ∃ g, A = some ⟨g, 0, none⟩ ∧ B ≤ g ∧ Row w g N C l := by
  obtain ⟨g, cap, hv, hB, _⟩ := h.form hN
  injection hv with hA _ hc
  subst hA
  exact ⟨g, rfl, hB, ⟨own_base h (Nat.zero_le _)⟩⟩
theorem sumOf_lt {l : List Nat} (h : ∀ x ∈ l, x < 256) : ∀ x ∈ sumOf l, x < 256 := by
  intro x hx
  rcases List.mem_append.1 hx with h1 | h1
  · exact h x (List.mem_of_mem_drop (List.mem_of_mem_take h1))
  · exact h x (List.mem_of_mem_drop h1)
theorem WrapRet.mk {kind : Nat} {l : List Nat} {w w' : World} {g N C : Nat} {L : List Nat} (hN : N = 11 + l.length) (hr : Row w' g N C L) (hg : w.heap.size ≤ g) (hL : L = F.wrap kind l) (hb : Below w.heap.size w w') :
    WrapRet kind l w (.returned (.tuple #[.slice (some ⟨g, 0, none⟩) N C, .int .i64 0])) w' := by
  subst hN hL
  exact ⟨_, C, rfl, hr.base hg, hb⟩

set_option maxRecDepth 100000 in
set_option maxHeartbeats 1000000 in
theorem wrap_any {w : World} {A : Option Addr} {n c kind : Nat} {l : List Nat} (h : Rd w w.heap.size 1 A n (by8 l)) (hl : ∀ x ∈ l, x < 256) (hn : n ≤ 65536) (hk : kind < 256) :
    Calls Try.prog 14 #[.int .u8 kind, .slice A n c] w (WrapRet kind l w) := by
  have hlen : l.length = n := by simpa [by8_len] using h.len1
  have HL := Lib.hid hlen
  have HB := Lib.hid hl
  have H := Lib.hid h
  have hmk : ∀ W : World, (Instr.makeSlice 22 (.int .i64 11) (.int .i64 (11 + (n : Int)))).run Try.prog W = .ok (.slice (some ⟨W.heap.size, 0, none⟩) 11 (11 + n)) (W.alloc (.cells (madeCells #[.int .u8 0] (11 + n)) 5)) := by
    intro W
    obtain ⟨i, hi, hz, hsz, hb⟩ := info_parts info5
    have := run_make (P := Try.prog) W 22 5 i (.int .u8 0) Try.underlying22 hi hz .i64 .i64 11 (11 + (n : Int)) (by omega) (by omega) (by rw [hb]; omega) (by omega)
    have e : (11 + (n : Int)).toNat = 11 + n := by omega
    rw [e, hsz, Nat.mul_one] at this
    exact this
  have RM := Lib.hid (row_make w n hn)
  clear hlen hl h
  go_enter Try.func14, Try.ntmps14
  go_wp2_with (refine wpList_copy_st rfl (.tmp 14) rfl rfl RM.out (by omega) ?_)
  intro w2 hr2 hg2
  have R2 := Lib.hid hr2
  have G2 := Lib.hid hg2
  have hc2 := hr2.cell (j := 2) (x := 0) rfl
  have hf2 := hr2.free 2
  clear hr2 hg2
  have R3 := Lib.hid (R2.out.store 2 kind)
  have HB3 : Hid (Below w.heap.size w (w2.setCell ⟨w.heap.size, 2, none⟩ (.int .u8 (kind : Int)))) :=
    Lib.hid ((((Below.refl _ w).alloc (Nat.le_refl _) _).grown G2.out (by simp) (fun k hk => by cases hk; exact Nat.le_refl _)).setCell (p := ⟨w.heap.size, 2, none⟩) (Nat.le_refl _) _)
  go_wp2_with fail
  refine (put_any R3.out.1 (by omega) (by omega) (by omega)).mono ?_
  rintro e w4 ⟨rfl, hr4, hg4⟩
  have HB4 := Lib.hid (HB3.out.grown hg4 HB3.out.size (fun k hk => by cases hk; exact Nat.le_refl _))
  have O4 := Lib.hid (hr4.base (Nat.le_refl _))
  have HA := Lib.hid (H.out.below HB4.out)
  clear hr4 hg4 hc2 hf2
  go_wp2_with (at_builtin; refine wpList_app _ rfl (.tmp 25) (.tmp 26) 22 rfl w w.heap.size 5 (.int .u8 0) 1 1 Try.underlying22 info5 rfl (by decide) _ 11 _ rfl O4.out w.heap.size A n c (by8 l) rfl HA.out (by8_one l) (by unfold maxLen; omega) (by omega) HB4.out (Nat.le_refl _) ?_)
  intro A5 c5 w5 hown5 hg5 hB5
  have HB5 := Lib.hid hB5
  clear hB5 hg5
  obtain ⟨X, hX⟩ : ∃ X, X = ovr (((ovr (List.replicate 11 0) 0 [83, 84]).set 2 kind)) 3 (F.four n) ++ l := ⟨_, rfl⟩
  have hown5' : w5.ownsRow w.heap.size 5 1 (.slice A5 (11 + n) c5) (11 + n) (by8 X) := by rw [hX, by8_append]; exact hown5
  obtain ⟨g, rfl, hgw, hrow5⟩ := row_of_own hown5' (by omega)
  have HW : Hid (ovr X 7 (F.four (F.sum (sumOf X))) = F.wrap kind l) := Lib.hid (by rw [hX, ← HL.out]; exact wrap_plain kind l)
  have hXlt : ∀ x ∈ X, x < 256 := by
    rw [hX]
    intro x hx
    rcases List.mem_append.1 hx with h1 | h1
    · simp [ovr, F.four] at h1
      omega
    · exact HB.out x h1
  have HXL := Lib.hid (sumOf_lt hXlt)
  have hcap := hrow5.cap
  have hcap1 := hcap.1
  have hcap2 := hcap.2
  unfold maxLen at hcap2
  have RX := Lib.hid hrow5
  have hSl : (sumOf X).length = 5 + n := by have := hrow5.len; simp [sumOf]; omega
  obtain ⟨S, hS⟩ : ∃ S, S = sumOf X := ⟨_, rfl⟩
  obtain ⟨v, hv⟩ : ∃ v, v = F.sum S := ⟨_, rfl⟩
  have rx' : Rd w5.drew w5.drew.heap.size 1 (some ⟨g, 0, none⟩) (11 + n) (by8 X) := hrow5.rd
  have hc20 := summed_any (c := c5) rx' (by omega) hcap.1 hcap.2 (by omega)
  rw [← hS] at hSl hc20
  have C20 := Lib.hid (hc20.mono fun _ _ h => h.to hSl)
  have hv32 : v < 4294967296 := by rw [hv]; exact F.sum_lt
  have HV32 := Lib.hid hv32
  have HV := Lib.hid hv
  have HS := Lib.hid hS
  have i7 : (7 : Int) ≤ 11 + (n : Int) := by omega
  have ic5 : 11 + (n : Int) ≤ (c5 : Int) := by omega
  have hc7 : ¬ c5 = 7 := by omega
  have RX' : Hid (Row w5.drew g (11 + n) c5 X) := Lib.hid ⟨hrow5.own⟩
  clear hX hown5 hown5' hrow5 hXlt hcap hcap2 rx' hc20 hSl hv32 hv hS HA O4 R3 HB3 R2 G2 hmk RM HB4
  go_wp2_with fail
  go_region_with (first
    | (go_at_call 20; refine C20.out.mono ?_; rintro e w6 ⟨A6, c6, rfl, hown6, hB6⟩; have R6 := Lib.hid (Rd.of_own hown6); have HB6 := Lib.hid hB6; clear hown6 hB6)
    | (go_at_call 11; refine (sum_any R6.out (HS.out ▸ HXL.out) (by unfold maxLen; omega)).mono ?_; rintro e w7 ⟨rfl, hB7⟩; rw [← HV.out]; have HB7 := Lib.hid (HB6.out.trans (hB7.mono HB6.out.size)); clear hB7)
    | (go_at_call 19; refine (put_any (RX'.out.below HB7.out RX'.out.lt) (by omega) (by omega) HV32.out).mono ?_; rintro e w8 ⟨rfl, hr8, hg8⟩; have R8 := Lib.hid hr8; have G8 := Lib.hid hg8; clear hr8 hg8))
  all_goals
    go_wp2_with fail
    go_ret2
    exact WrapRet.mk (by rw [HL.out]) R8.out hgw (by rw [HV.out, HS.out]; exact HW.out) (((HB5.out.trans ((Below.refl _ _).drew)).trans (HB7.out.mono HB5.out.size)).grown G8.out (by have := HB5.out.size; have := HB7.out.size; simp at this; omega) (fun k hk => by cases hk; exact hgw))
end Go.Proofs.Ytfbiobglckjilaa
