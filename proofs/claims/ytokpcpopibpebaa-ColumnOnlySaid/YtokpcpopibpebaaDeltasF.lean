/-
  The contracts of slices.Clone and of both Deltas.
-/
import Derived.Test.YtokpcpopibpebaaRRunsF
import Derived.WalkSpells
namespace Go.Proofs.Ytokpcpopibpebaa
open Go Go.RowKit
set_option linter.unusedVariables false
set_option linter.unusedSimpArgs false

theorem info3 : (Try.prog.info? 3).map (fun i => (i.zero, i.size, i.bytes)) = some (some (.int .i64 0), 1, 8) := by kernel_rfl
theorem i64s_one (l : List Int) : ∀ u ∈ i64s l, u.oneCell' = true := by
  intro u hu
  simp only [i64s, List.mem_map] at hu
  obtain ⟨x, _, rfl⟩ := hu
  rfl
theorem i64s_append (l r : List Int) : i64s (l ++ r) = i64s l ++ i64s r := by simp [i64s]

/-- WHAT A CALL MADE: a new slice of numbers -/
def MadeI (xs : List Int) (w : World) (e : Ending) (w' : World) : Prop :=
  ∃ A c, e = .returned (.slice A xs.length c) ∧ w'.ownsRow w.heap.size 3 1 (.slice A xs.length c) xs.length (i64s xs) ∧ Below w.heap.size w w'

set_option maxRecDepth 100000 in
theorem clone_any (A : Option Addr) (len cap : Nat) (zs : List Int) (hlen : len ≤ 65537) (w : World) (hR : Rd w w.heap.size 1 A len (i64s zs)) :
    Calls Try.prog 42 #[.slice A len cap] w (MadeI zs w) := by
  have hzl : zs.length = len := by have := hR.len1; rwa [i64s_len] at this
  have hev := fun (w : World) => Lib.run_eql_slice_nil (P := Try.prog) w 38 3 A len cap 0 0 Try.underlying38
  cases A with
  | none =>
    have h0 : zs = [] := by
      rcases hR.2 with h | ⟨b, off, h, _⟩
      · rw [h] at hzl; exact List.eq_nil_of_length_eq_zero hzl
      · cases h
    have HZ := Lib.hid h0
    clear hzl h0
    go_enter Try.func42, Try.ntmps42
    go_wp2_with fail
    go_ret
    have e := HZ.out
    subst e
    exact ⟨none, 0, rfl, World.ownsRow_nil _ _ _ _, Below.refl _ _⟩
  | some a =>
    have HR := Lib.hid hR
    have HZL := Lib.hid hzl
    clear hR hzl
    go_enter Try.func42, Try.ntmps42
    go_wp2_with (at_builtin; refine wpList_app _ rfl (.tmp 5) (.tmp 6) 38 rfl w w.heap.size 3 (.int .i64 0) 1 8 Try.underlying38 info3 rfl (by decide) _ 0 [] rfl (own_empty w _ 3 1 (Nat.le_refl _)) w.heap.size (some a) len cap (i64s zs) rfl (HR.out.alloc (Nat.le_refl _) _) (i64s_one _) (by unfold maxLen; omega) (by omega) ((Below.refl _ _).alloc (Nat.le_refl _) _) (Nat.le_refl _) ?_)
    intro A1 c1 w1 own1 hg1 hB1
    go_wp2_with fail
    go_ret
    have e := HZL.out
    subst e
    exact ⟨A1, c1, by simp, own1, hB1⟩

theorem own_rebase {w : World} {base base' : Nat} {e : TypeId} {size : Nat} {v : Value} {n : Nat} {xs : List Value} (h : w.ownsRow base e size v n xs) (hb : base' ≤ base) : w.ownsRow base' e size v n xs := by
  refine ⟨h.1, h.2.imp id ?_⟩
  rintro ⟨g, cap, cur, rfl, hg, rest⟩
  exact ⟨g, cap, cur, rfl, Nat.le_trans hb hg, rest⟩
/-- the list, half of it turned into differences -/
def half (zs : List Int) (j : Nat) : List Int := (delta zs).take j ++ zs.drop j
theorem half_zero (zs : List Int) : half zs 0 = zs := by simp [half]
theorem half_all (zs : List Int) {n : Nat} (h : zs.length = n) : half zs n = delta zs := by
  unfold half
  rw [List.drop_eq_nil_of_le (by omega), List.append_nil, List.take_of_length_le (by rw [delta_len]; omega)]
theorem half_set {zs : List Int} {j : Nat} {d : Int} (hj : j < zs.length) (hd : (delta zs)[j]? = some d) : (half zs j).set j d = half zs (j + 1) := by
  unfold half
  have hl : ((delta zs).take j).length = j := by rw [List.length_take, delta_len]; omega
  rw [List.set_append_right _ _ (by omega), hl, Nat.sub_self, List.drop_eq_getElem_cons hj, List.set_cons_zero]
  have h2 : j < (delta zs).length := by rw [delta_len]; exact hj
  rw [List.getElem?_eq_getElem h2] at hd
  injection hd with hd
  rw [List.take_succ_eq_append_getElem h2, hd]
  simp
theorem half_same {zs : List Int} {x : Int} (h0 : zs[0]? = some x) : half zs 1 = zs := by
  cases zs with
  | nil => simp at h0
  | cons y t => simp [half, delta]

set_option maxRecDepth 100000 in
set_option maxHeartbeats 2000000 in
theorem deltas_any (A : Option Addr) (len cap : Nat) (zs : List Int) (hlen : len ≤ 65536) (hcap : len ≤ cap) (hmax : cap ≤ maxLen) (hz : ∀ x ∈ zs, InI x) (w : World) (hR : Rd w w.heap.size 1 A len (i64s zs)) :
    Calls Try.prog 29 #[.slice A len cap] w (Made8 (runsBytes (runs (delta zs))) w) := by
  have hzl : zs.length = len := by have := hR.len1; rwa [i64s_len] at this
  have HC := Lib.hid (clone_any A len cap zs (by omega) w hR)
  have HR := Lib.hid hR
  have HZL := Lib.hid hzl
  have HZ := Lib.hid hz
  have hle := hlen
  clear hz hR hzl
  go_enter Try.func29, Try.ntmps29
  go_wp2_with fail
  refine HC.out.mono ?_
  rintro e w1 ⟨A1, c1, rfl, own1, hB1⟩
  have hc1 := own_cap own1
  rw [HZL.out] at own1
  have OW1 := Lib.hid own1
  have HB1 := Lib.hid hB1
  simp only [HZL.out] at hc1 ⊢
  clear own1 hB1 HC
  go_wp2_with fail
  go_loopw [4, 9] (fun s4 s9 wr => ∃ j : Nat, s9 = .int .i64 j ∧ j ≤ len ∧ Hid (wr.ownsRow w.heap.size 3 1 (.slice A1 len c1) len (i64s (half zs j))) ∧ Hid (Below w.heap.size w wr)) (fun _ s9 _ => len - (intOf s9).toNat)
  case atStart => exact ⟨0, rfl, Nat.zero_le _, Lib.hid (by rw [half_zero]; exact OW1.out), HB1⟩
  case round =>
    obtain ⟨j, rfl, hj, HO, HB⟩ := hrel
    by_cases hlt : j < len
    · by_cases hj0 : j = 0
      · subst hj0
        obtain ⟨x, hx⟩ : ∃ x, zs[0]? = some x := ⟨zs[0]'(by rw [HZL.out]; exact hlt), List.getElem?_eq_getElem _⟩
        have HO1 : Hid (wr.ownsRow w.heap.size 3 1 (.slice A1 len c1) len (i64s (half zs 1))) := Lib.hid (by rw [half_same hx]; have := HO.out; rw [half_zero] at this; exact this)
        clear hx
        go_wp2_with fail
        go_roundw
        case rel => exact ⟨1, by go_num, by omega, HO1, HB⟩
        case measure => simp [intOf]; omega
      · obtain ⟨i, rfl⟩ : ∃ i, j = i + 1 := ⟨j - 1, by omega⟩
        obtain ⟨x, hx⟩ : ∃ x, zs[i]? = some x := ⟨zs[i]'(by rw [HZL.out]; omega), List.getElem?_eq_getElem _⟩
        obtain ⟨y, hy⟩ : ∃ y, zs[i + 1]? = some y := ⟨zs[i + 1]'(by rw [HZL.out]; omega), List.getElem?_eq_getElem _⟩
        obtain ⟨b, off, rfl, hb, hcs⟩ := HR.out.at_ (Nat.lt_of_le_of_lt (Nat.zero_le _) hlt)
        have cx : wr.cell? ⟨b, off + i, none⟩ = some (.int .i64 x) := (HB.out.cell (p := ⟨b, off + i, none⟩) hb).trans (hcs i _ (i64s_at hx))
        have cy : wr.cell? ⟨b, off + (i + 1), none⟩ = some (.int .i64 y) := (HB.out.cell (p := ⟨b, off + (i + 1), none⟩) hb).trans (hcs (i + 1) _ (i64s_at hy))
        obtain ⟨g, rfl, hg1, hg2⟩ := own_addr HO.out (Nat.lt_of_le_of_lt (Nat.zero_le _) hlt)
        have hcell := HO.out.cellAt (i + 1) (by omega)
        obtain ⟨u, hu⟩ : ∃ u, (i64s (half zs (i + 1)))[i + 1]? = some u := ⟨_, List.getElem?_eq_getElem (by rw [i64s_len]; unfold half; rw [List.length_append, List.length_take, delta_len, List.length_drop]; have := HZL.out; omega)⟩
        rw [hu] at hcell
        have hfz := HO.out.frozenAt (i + 1)
        have hne : ¬ b = g := by omega
        have HD : Hid ((delta zs)[i + 1]? = some (wrap64 (y - x))) := Lib.hid (delta_at hx hy)
        obtain ⟨st1, st2⟩ := HO.out.stored (i + 1) (.int .i64 (wrap64 (y - x)))
        have HO2 : Hid ((wr.setCell ⟨g, i + 1, none⟩ (.int .i64 (wrap64 (y - x)))).ownsRow w.heap.size 3 1 (.slice (some ⟨g, 0, none⟩) len c1) len (i64s (half zs (i + 1 + 1)))) := Lib.hid (by
          rw [← half_set (by rw [HZL.out]; omega) HD.out]
          unfold i64s
          rw [List.map_set]
          exact st1)
        have HB2 : Hid (Below w.heap.size w (wr.setCell ⟨g, i + 1, none⟩ (.int .i64 (wrap64 (y - x))))) := Lib.hid (HB.out.setCell (p := ⟨g, i + 1, none⟩) hg1 _)
        have k1 : (0 : Int) ≤ (i : Int) := by omega
        have k2 : (i : Int) + 1 < (len : Int) := by omega
        have k3 : (i : Int) < (len : Int) := by omega
        clear hx hy hcs hu st1 st2
        go_wp2_with fail
        go_region
        have HO3 : Hid ((wr.setCell ⟨g, i + 1, none⟩ (.int .i64 (wrap64 (y - x)))).drew.ownsRow w.heap.size 3 1 (.slice (some ⟨g, 0, none⟩) len c1) len (i64s (half zs (i + 1 + 1)))) := Lib.hid HO2.out.drew
        have HB3 := Lib.hid HB2.out.drew
        clear HO2 HB2
        go_wp2_with fail
        go_roundw
        case rel => exact ⟨i + 1 + 1, by go_num, by omega, HO3, HB3⟩
        case measure => simp [intOf]; omega
    · obtain rfl : j = len := by omega
      have hrd := Rd.of_own HO.out
      rw [half_all zs HZL.out] at hrd
      have hrun := runs_any A1 j c1 (delta zs) hlen hc1.1 hc1.2 (delta_InI HZ.out) wr hrd
      have HRU := Lib.hid hrun
      clear hrd hrun
      go_wp2_with fail
      refine HRU.out.mono ?_
      rintro e w5 ⟨A5, c5, rfl, own5, hB5⟩
      have HO5 := Lib.hid own5
      have HB5 := Lib.hid hB5
      clear own5 hB5
      go_wp2_with fail
      go_ret
      exact ⟨A5, c5, rfl, own_rebase HO5.out HB.out.size, HB.out.trans (HB5.out.mono HB.out.size)⟩
end Go.Proofs.Ytokpcpopibpebaa
