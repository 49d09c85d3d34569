/-
  THE WALK OF VarintTakes.
-/
import Derived.Test.YtokpcpopibpebaaRTake
import Derived.Test.YtokpcpopibpebaaAlive
import Derived.Test.YtokpcpopibpebaaOpenA
namespace Go.Proofs.Ytokpcpopibpebaa
open Go Go.RowKit

theorem by8_one (l : List Nat) : ∀ u ∈ by8 l, u.oneCell' = true := by
  intro u hu
  simp only [by8, List.mem_map] at hu
  obtain ⟨x, _, rfl⟩ := hu
  rfl

theorem own_base {w : World} {base base' : Nat} {e : TypeId} {size : Nat} {v : Value} {n : Nat} {xs : List Value} (h : w.ownsRow base e size v n xs) (hb : base' ≤ base) : w.ownsRow base' e size v n xs :=
  ⟨h.1, h.2.imp id fun ⟨g, cap, cur, hv, hg, r⟩ => ⟨g, cap, cur, hv, Nat.le_trans hb hg, r⟩⟩

/-- own: a copy of bytes with one more behind. -/
structure OwnCopy (w : World) (g n c : Nat) (l : List Nat) : Prop where
  row : w.ownsRow 0 5 1 (.slice (some ⟨g, 0, none⟩) (n + 1) c) (n + 1) (by8 l ++ [.int .u8 77])
  len : l.length = n

theorem OwnCopy.rd {w : World} {g n c : Nat} {l : List Nat} (h : OwnCopy w g n c l) : Rd w w.heap.size 1 (some ⟨g, 0, none⟩) n (by8 l) := by
  have := (Rd.of_own h.row).take1 (k := n) (by omega)
  rwa [List.take_append_of_le_length (by rw [by8_len, h.len]; omega), List.take_of_length_le (by rw [by8_len, h.len]; omega)] at this
theorem OwnCopy.last {w : World} {g n c : Nat} {l : List Nat} (h : OwnCopy w g n c l) : w.cell? ⟨g, n, none⟩ = some (.int .u8 77) := by
  rw [h.row.cellAt n (by omega), List.getElem?_append_right (by rw [by8_len, h.len]; omega)]
  simp [by8_len, h.len]
theorem OwnCopy.lt {w : World} {g n c : Nat} {l : List Nat} (h : OwnCopy w g n c l) : g < w.heap.size := (h.row.lt g rfl).2
theorem OwnCopy.cap {w : World} {g n c : Nat} {l : List Nat} (h : OwnCopy w g n c l) : n + 1 ≤ c ∧ c ≤ maxLen := by
  obtain ⟨A, c', hv, h1, h2⟩ := own_slice h.row
  injection hv with _ _ hc
  subst hc
  exact ⟨h1, h2⟩

set_option maxRecDepth 100000 in
set_option maxHeartbeats 1000000 in
theorem varintTakes.walk (W : World) (A : Option Addr) (n c : Nat) (l : List Nat) (k : Bytes W A n c l) :
    Calls Try.prog 6 #[.slice A n c] W fun e w' => e = .returned (.bool true) ∧ Below W.heap.size W w' := by
  have K := Lib.hid k
  have hr := k.reach
  have hcap := k.cap
  have hmax := k.max
  have hlen : l.length = n := by simpa [by8_len] using k.rd.len1
  have HL := Lib.hid hlen
  clear k hlen
  unfold maxLen at hmax
  go_enter Try.func6, Try.ntmps6
  go_wp2_with (at_builtin; refine wpList_app _ rfl (.tmp 11) (.tmp 12) 24 rfl W W.heap.size 5 (.int .u8 0) 1 1 Try.underlying24 info5 rfl (by decide) _ 0 [] rfl (own_empty W _ 5 1 (Nat.le_refl _)) W.heap.size A n c (by8 l) rfl (K.out.rd.alloc (Nat.le_refl _) _) (by8_one l) (by unfold maxLen; omega) (by omega) ((Below.refl _ _).alloc (Nat.le_refl _) _) (Nat.le_refl _) ?_)
  intro A1 c1 w1 hown1 hg1 hB1
  clear hg1
  go_wp2_with (at_builtin; refine wpList_app1 _ rfl (.tmp 13) (.tmp 14) 24 rfl W W.heap.size 5 (.int .u8 0) 1 Try.underlying24 info5 rfl w1 _ rfl rfl _ _ _ rfl hown1 rfl (by unfold maxLen; omega) (by omega) hB1 (Nat.le_refl _) ?_)
  intro A2 c2 w2 hown2 hg2 hB2
  clear hg2 hown1 hB1
  obtain ⟨g, cc, hv, hg, _⟩ := hown2.form (by omega)
  injection hv with hA hn hc
  subst hA hc
  have O : Hid (OwnCopy w2 g n c2 l) := Lib.hid ⟨own_base hown2 (Nat.zero_le _), HL.out⟩
  have hcc := O.out.cap.1
  have hcm := O.out.cap.2
  unfold maxLen at hcm
  clear hown2
  go_wp2_with fail
  refine (take_any O.out.rd K.out.lt (by unfold maxLen; omega)).mono ?_
  rintro e w' ⟨rfl, rfl⟩
  have RB := Lib.hid (K.out.rd.below hB2)
  go_wp2_with fail
  refine (rtake_any RB.out K.out.lt (by unfold maxLen; omega) hcap hB2.size).mono ?_
  rintro e w3 ⟨rfl, hB3⟩
  go_wp2_with fail
  have r1 := O.out.rd.below hB3
  have r2 := RB.out.below (hB3.mono hB2.size)
  refine (same_any r1 r2 K.out.lt K.out.lt).mono ?_
  rintro e w' ⟨rfl, rfl⟩
  clear r1 r2
  have hd : decide (l = l) = true := by simp
  go_wp2_with fail
  refine (alive_any _).mono ?_
  rintro e w4 ⟨rfl, hB4⟩
  have hlast : w4.cell? ⟨g, n, none⟩ = some (.int .u8 77) := by
    rw [hB4.cell (p := ⟨g, n, none⟩) (Nat.lt_of_lt_of_le O.out.lt hB3.size), hB3.cell (p := ⟨g, n, none⟩) O.out.lt]
    exact O.out.last
  go_wp2_with fail
  go_ret
  exact ⟨by simp, hB2.trans ((hB3.mono hB2.size).trans (hB4.mono (Nat.le_trans hB2.size hB3.size)))⟩
end Go.Proofs.Ytokpcpopibpebaa
