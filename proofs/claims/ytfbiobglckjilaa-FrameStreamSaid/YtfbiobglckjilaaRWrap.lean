/-
  The walks of the reference's four and Wrap.
-/
import Derived.Test.YtfbiobglckjilaaWrap
namespace Go.Proofs.Ytfbiobglckjilaa
open Go Go.RowKit
set_option linter.unusedVariables false

theorem four_cells (v : Nat) : by8 (F.four v) = [.int .u8 ((v : Int) % 256), .int .u8 ((v : Int) / 256 % 256), .int .u8 ((v : Int) / 65536 % 256), .int .u8 ((v : Int) / 16777216 % 256)] := by
  simp [by8, F.four]

theorem four_any (v : Nat) (w : World) (hv : v < 4294967296) : Calls Try.prog 21 #[.int .u32 v] w (MadeN 4 (F.four v) w) := by
  have O := Lib.hid (World.ownsRow_lit (base := w.heap.size) (e := 5) (size := 1) w (by8 (F.four v)).toArray 4 (Nat.le_refl _) (by simp [maxLen]) (by simp [by8, F.four]))
  clear hv
  go_enter Try.func21, Try.ntmps21
  go_wp2
  go_ret
  refine ⟨_, _, rfl, ?_, (Below.refl _ w).alloc (Nat.le_refl _) _⟩
  have := O.out
  rw [four_cells] at this ⊢
  exact this

theorem own_below {w w' : World} {base : Nat} {e : TypeId} {size : Nat} {v : Value} {n : Nat} {xs : List Value} {B : Nat} (h : w.ownsRow base e size v n xs) (hb : Below B w w') (hv : ∀ k, v.ownBlock = some k → k < B) : w'.ownsRow base e size v n xs := by
  refine ⟨h.1, ?_⟩
  rcases h.2 with hn | ⟨g, cap, cur, rfl, h1, h2, h3⟩
  · exact .inl hn
  · exact .inr ⟨g, cap, cur, rfl, h1, by rw [hb.block g (hv g rfl)]; exact h2, h3⟩

theorem own_lit8 (w : World) (l : List Nat) (n B : Nat) (hB : B ≤ w.heap.size) (hn : l.length = n) (hm : n ≤ maxLen) : (w.alloc (.cells (by8 l).toArray 5)).ownsRow B 5 1 (.slice (some ⟨w.heap.size, 0, none⟩) n n) n (by8 l) :=
  World.ownsRow_lit (base := B) (e := 5) (size := 1) w (by8 l).toArray n hB hm (by simp [by8_len, hn])

set_option maxRecDepth 100000 in
set_option maxHeartbeats 1000000 in
theorem rwrap_any {w : World} {A : Option Addr} {n c kind : Nat} {l : List Nat} (h : Rd w w.heap.size 1 A n (by8 l)) (hl : ∀ x ∈ l, x < 256) (hn : n ≤ 65536) (hk : kind < 256) :
    Calls Try.prog 15 #[.int .u8 kind, .slice A n c] w (WrapRet kind l w) := by
  have hlen : l.length = n := by simpa [by8_len] using h.len1
  have HL := Lib.hid hlen
  have HB := Lib.hid hl
  have H := Lib.hid h
  clear hlen hl h
  have C4 := Lib.hid (fun w => four_any n w (by omega))
  go_enter Try.func15, Try.ntmps15
  go_wp2_with fail
  refine (C4.out _).mono ?_
  rintro e w1 ⟨A1, c1, rfl, hown1, hB1⟩
  have R1 := Lib.hid (Rd.of_own hown1)
  have HB1 := Lib.hid (((Below.refl _ w).alloc (Nat.le_refl _) _).trans (hB1.mono (by simp)))
  have O1 : Hid (w1.ownsRow w.heap.size 5 1 (.slice (some ⟨w.heap.size, 0, none⟩) 1 1) 1 (by8 [kind])) := Lib.hid (own_below (own_lit8 w [kind] 1 _ (Nat.le_refl _) rfl (by simp [maxLen])) hB1 (fun k hk => by cases hk; simp))
  clear hown1 hB1
  go_wp2_with (at_builtin; refine wpList_app _ rfl (.tmp 13) (.tmp 17) 22 rfl w w.heap.size 5 (.int .u8 0) 1 1 Try.underlying22 info5 rfl (by decide) _ 1 _ rfl O1.out w1.heap.size A1 4 c1 (by8 (F.four n)) rfl R1.out (by8_one _) (by unfold maxLen; omega) (by omega) HB1.out (Nat.le_refl _) ?_)
  intro A2 c2 w2 hown2 hg2 hB2
  have HD : Hid ([kind] ++ F.four n = F.head kind l) := Lib.hid (by rw [← HL.out]; rfl)
  rw [← by8_append, HD.out] at hown2
  have R2 := Lib.hid (Rd.of_own hown2)
  have HB2 := Lib.hid hB2
  have OB2 := Lib.hid (fun k hk => (hown2.lt k hk).2)
  clear hown2 hg2 hB2 O1 R1 HB1
  go_wp2_with (at_builtin; refine wpList_app _ rfl (.tmp 19) (.tmp 20) 22 rfl w2 w2.heap.size 5 (.int .u8 0) 1 1 Try.underlying22 info5 rfl (by decide) _ 0 [] rfl (own_empty w2 _ 5 1 (Nat.le_refl _)) w2.heap.size A2 5 c2 (by8 (F.head kind l)) rfl (R2.out.alloc (Nat.le_refl _) _) (by8_one _) (by unfold maxLen; omega) (by omega) ((Below.refl _ _).alloc (Nat.le_refl _) _) (Nat.le_refl _) ?_)
  intro A3 c3 w3 hown3 hg3 hB3
  have HR3 := Lib.hid ((H.out.below HB2.out).more HB2.out.size)
  have HR3' := Lib.hid (HR3.out.below hB3)
  clear hg3
  go_wp2_with (at_builtin; refine wpList_app _ rfl (.tmp 21) (.tmp 22) 22 rfl w2 w2.heap.size 5 (.int .u8 0) 1 1 Try.underlying22 info5 rfl (by decide) _ 5 _ rfl hown3 w2.heap.size A n c (by8 l) rfl HR3'.out (by8_one _) (by unfold maxLen; omega) (by omega) hB3 (Nat.le_refl _) ?_)
  intro A4 c4 w4 hown4 hg4 hB4
  rw [← by8_append] at hown4
  have R4 := Lib.hid (Rd.of_own hown4)
  have HB4 := Lib.hid (HB2.out.trans (hB4.mono HB2.out.size))
  have R2' := Lib.hid (R2.out.below hB4)
  have HR4 := Lib.hid ((HR3.out.below hB4).more hB4.size)
  have hs4 := hB4.size
  clear hown3 hB3 hown4 hg4 hB4 HR3 HR3' R2
  have hkb : ∀ x ∈ F.head kind l ++ l, x < 256 := by
    intro x hx
    rcases List.mem_append.1 hx with h1 | h1
    · rcases List.mem_cons.1 h1 with rfl | h1
      · exact hk
      · exact F.four_byte _ x h1
    · exact HB.out x h1
  obtain ⟨v, hv⟩ : ∃ v, v = F.sum (F.head kind l ++ l) := ⟨_, rfl⟩
  have hv32 : v < 4294967296 := by rw [hv]; exact F.sum_lt
  have HKB := Lib.hid hkb
  have HV := Lib.hid hv
  have C5 := Lib.hid (fun w => four_any v w hv32)
  clear hkb hv hv32
  go_wp2_with fail
  refine (rsum_any R4.out HKB.out (by unfold maxLen; omega)).mono ?_
  rintro e w' ⟨rfl, rfl⟩
  rw [← HV.out]
  go_wp2_with (at_builtin; refine wpList_app _ rfl (.tmp 25) (.tmp 26) 22 rfl w w.heap.size 5 (.int .u8 0) 1 1 Try.underlying22 info5 rfl (by decide) _ 2 _ rfl (own_lit8 w4 [83, 84] 2 _ HB4.out.size rfl (by simp [maxLen])) w2.heap.size A2 5 c2 (by8 (F.head kind l)) rfl (R2'.out.alloc hs4 _) (by8_one _) (by unfold maxLen; omega) (by omega) (HB4.out.alloc HB4.out.size _) (Nat.le_refl _) ?_)
  intro A6 c6 w6 hown6 hg6 hB6
  rw [← by8_append] at hown6
  have O6 := Lib.hid hown6
  have HB6 := Lib.hid hB6
  have HA6 := Lib.hid (H.out.below hB6)
  clear hown6 hg6 hB6 hs4
  go_wp2_with fail
  refine (C5.out _).mono ?_
  rintro e w7 ⟨A7, c7, rfl, hown7, hB7⟩
  have R7 := Lib.hid (Rd.of_own hown7)
  have HB7 := Lib.hid (HB6.out.trans (hB7.mono HB6.out.size))
  have O7 := Lib.hid (own_below O6.out hB7 (fun k hk => (O6.out.lt k hk).2))
  clear hown7 hB7
  go_wp2_with (at_builtin; refine wpList_app _ rfl (.tmp 28) (.tmp 30) 22 rfl w w.heap.size 5 (.int .u8 0) 1 1 Try.underlying22 info5 rfl (by decide) _ 7 _ rfl O7.out w7.heap.size A7 4 c7 (by8 (F.four v)) rfl R7.out (by8_one _) (by unfold maxLen; omega) (by omega) HB7.out (Nat.le_refl _) ?_)
  intro A8 c8 w8 hown8 hg8 hB8
  have HA8 := Lib.hid (H.out.below hB8)
  rw [← by8_append] at hown8
  clear hg8
  go_wp2_with (at_builtin; refine wpList_app _ rfl (.tmp 32) (.tmp 33) 22 rfl w w.heap.size 5 (.int .u8 0) 1 1 Try.underlying22 info5 rfl (by decide) _ 11 _ rfl hown8 w.heap.size A n c (by8 l) rfl HA8.out (by8_one _) (by unfold maxLen; omega) (by omega) hB8 (Nat.le_refl _) ?_)
  intro A9 c9 w9 hown9 hg9 hB9
  rw [← by8_append] at hown9
  obtain ⟨g, rfl, hgw, hrow9⟩ := row_of_own hown9 (by omega)
  have R9 := Lib.hid hrow9
  have HB9 := Lib.hid hB9
  clear hown8 hB8 hown9 hg9 hrow9 hB9
  go_wp2_with fail
  go_ret2
  exact WrapRet.mk (by rw [HL.out]) R9.out hgw (by rw [HV.out]; simp [F.wrap, F.head]) HB9.out
end Go.Proofs.Ytfbiobglckjilaa
