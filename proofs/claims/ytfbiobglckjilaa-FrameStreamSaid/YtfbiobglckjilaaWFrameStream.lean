/-
  THE WALK OF FrameStream.
-/
import Derived.Test.YtfbiobglckjilaaStreamLaw
import Derived.Test.YtfbiobglckjilaaWFrameBack
namespace Go.Proofs.Ytfbiobglckjilaa
open Go Go.RowKit
set_option linter.unusedVariables false

structure Rel1 (W : World) (es : List Elem) (N : Nat) (i m c : Nat) (A : Option Addr) (wr : World) : Prop where
  iN : i ≤ N
  i8 : i ≤ 8
  len : m ≤ i * 1011
  own : wr.ownsRow W.heap.size 5 1 (.slice A m c) m (by8 (wraps (es.take i)))
  below : Below W.heap.size W wr
  short : ∀ j e, j < i → es[j]? = some e → e.n ≤ 1000

/-- Wrap of the last frame -/
theorem end_any {w : World} {A : Option Addr} {c : Nat} (h : Rd w w.heap.size 1 A 3 (by8 [101, 110, 100])) :
    Calls Try.prog 14 #[.int .u8 1, .slice A 3 c] w fun e w' => ∃ g c, e = .returned (.tuple #[.slice (some ⟨g, 0, none⟩) 14 c, .int .i64 0]) ∧ w.heap.size ≤ g ∧ Row w' g 14 c endFrame ∧ 14 ≤ c ∧ c ≤ maxLen ∧ Below w.heap.size w w' := by
  refine (wrap_any (kind := 1) h (by simp) (by omega) (by omega)).mono ?_
  intro e w' h'
  obtain ⟨g, c, he, hg, hr, h1, h2, hB⟩ := h'.read (n := 3) rfl
  exact ⟨g, c, he, hg, hr, h1, h2, hB⟩

structure Rel2 (W : World) (es : List Elem) (i m : Nat) (j len c : Nat) (A : Option Addr) (wr : World) : Prop where
  ji : j ≤ i
  rd : Rd wr wr.heap.size 1 A len (by8 (restOf es i m j))
  cap : len ≤ c
  max : c ≤ maxLen
  small : len ≤ 1000000
  below : Below W.heap.size W wr

set_option maxRecDepth 100000 in
set_option maxHeartbeats 2000000 in
theorem frameStream.walk (W : World) (A : Option Addr) (N C : Nat) (es : List Elem) (k : FramedsIn W A N es) (cut : Int) (hcl : -9223372036854775808 ≤ cut) (hch : cut < 9223372036854775808) :
    Calls Try.prog 9 #[.slice A N C, .int .i64 cut] W fun e w' => e = .returned (.bool true) ∧ Below W.heap.size W w' := by
  have K := Lib.hid k
  have HCL := Lib.hid hcl
  have HCH := Lib.hid hch
  clear k hcl hch
  go_enter Try.func9, Try.ntmps9
  go_wp2
  go_loopw [5, 6, 7] (fun v nn ii wr => ∃ (i len c : Nat) (A : Option Addr), ii = .int .i64 i ∧ nn = .int .i64 i ∧ v = .slice A len c ∧ Rel1 W es N i len c A wr) (fun _ _ ii _ => 8 - (intOf ii).toNat)
  case atStart => exact ⟨0, 0, 0, none, rfl, rfl, rfl, Nat.zero_le _, Nat.zero_le _, Nat.le_refl _, by rw [List.take_zero, wraps_nil]; exact World.ownsRow_nil _ _ _ _, Below.refl _ _, fun j e h => by omega⟩
  case round =>
    obtain ⟨i, len, c, A5, rfl, rfl, rfl, hR⟩ := hrel
    have R := Lib.hid hR
    have hi8 := hR.i8
    have hiN := hR.iN
    clear hR
    by_cases h1 : i < N
    · by_cases h2 : i < 8
      · obtain ⟨e, he⟩ : ∃ e, es[i]? = some e := ⟨es[i]'(by rw [K.out.len]; exact h1), List.getElem?_eq_getElem _⟩
        obtain ⟨b, off, rfl, hb, hcells⟩ := K.out.cells.resolve_left (by omega)
        obtain ⟨hc0, hc1⟩ := hcells i e he
        have kc0 : wr.cell? ⟨b, off + i * 4, none⟩ = some (.int .u8 (e.k : Nat)) := (R.out.below.cell (p := ⟨b, off + i * 4, none⟩) hb).trans hc0
        have kc1 : wr.cell? ⟨b, off + i * 4 + 1, none⟩ = some (.slice e.A e.n e.c) := (R.out.below.cell (p := ⟨b, off + i * 4 + 1, none⟩) hb).trans hc1
        obtain ⟨hk, hB⟩ := K.out.bodies e (List.mem_of_getElem? he)
        have HE := Lib.hid he
        have HB := Lib.hid hB
        clear hcells hc0 hc1 he hB
        obtain ⟨ek, eA, en, ec, el⟩ := e
        simp only at kc0 kc1 hk HB HE
        by_cases h3 : 1000 < en
        · go_wp2_with fail
          refine (alive_any _).mono ?_
          rintro e w4 ⟨rfl, hB4⟩
          go_wp2_with fail
          go_ret
          exact ⟨rfl, R.out.below.trans (hB4.mono R.out.below.size)⟩
        · have i1 : (i : Int) < (N : Int) := by omega
          have hlen := R.out.len
          have rb : Rd wr.drew wr.drew.heap.size 1 eA en (by8 el) := (HB.out.rd.below R.out.below).more R.out.below.size
          have hll : el.length = en := by simpa [by8_len] using HB.out.rd.len1
          have C14 := Lib.hid ((wrap_any (c := ec) rb HB.out.lt (by omega) hk).mono fun _ _ h => h.read hll)
          have HLL := Lib.hid hll
          clear rb hll
          go_wp2_with fail
          go_region_with (go_at_call 14; refine C14.out.mono ?_; rintro e w8 ⟨g8, c8, rfl, hg8, hrow8, hc8, hm8, hB8⟩; have R8 := Lib.hid hrow8.rd; have HB8 := Lib.hid hB8; clear hg8 hrow8 hc8 hm8 hB8)
          all_goals
            have O8 : Hid (w8.ownsRow W.heap.size 5 1 (.slice A5 len c) len (by8 (wraps (es.take i)))) := Lib.hid (own_below (w := wr.drew) R.out.own HB8.out (fun k hk => (R.out.own.lt k hk).2))
            have HW8 := Lib.hid ((R.out.below.trans (Below.refl _ _).drew).trans (HB8.out.mono R.out.below.size))
            go_wp2_with (at_builtin; refine wpList_app _ rfl (.tmp 56) (.tmp 57) 22 rfl W W.heap.size 5 (.int .u8 0) 1 1 Try.underlying22 info5 rfl (by decide) _ len (by8 (wraps (es.take i))) rfl O8.out w8.heap.size (some ⟨g8, 0, none⟩) (11 + en) c8 (by8 (F.wrap ek el)) rfl R8.out (by8_one _) (by unfold maxLen; omega) (by omega) HW8.out (Nat.le_refl _) ?_)
            intro A9 c9 w9 hown9 hg9 hB9
            have O9 := Lib.hid hown9
            have HB9 := Lib.hid hB9
            clear hown9 hg9 hB9
            go_wp2_with fail
            go_roundw
            case rel =>
              refine ⟨i + 1, _, _, _, by go_num, by go_num, rfl, by omega, by omega, by omega, ?_, HB9.out, ?_⟩
              · rw [wraps_succ HE.out, by8_append]; exact O9.out
              · intro j e hj hje
                rcases Nat.lt_or_ge j i with h | h
                · exact R.out.short j e h hje
                · have : j = i := by omega
                  subst this
                  rw [HE.out] at hje
                  injection hje with hje
                  subst hje
                  simpa using h3
            case measure => simp [intOf]; omega
      · have hi8b : 8 ≤ i := by omega
        have kc := fun (w : World) (C : Array Value) (n c : Nat) => Lib.run_convert_bytes_const (P := Try.prog) w 22 5 C n c Try.underlying22 Try.underlying5
        obtain ⟨q, hq⟩ : ∃ q : Nat, (cut < 0 ∧ -(cut + 1) = (q : Int) ∧ q < 9223372036854775808) ∨ (0 ≤ cut ∧ cut = (q : Int) ∧ q < 9223372036854775808) := by
          have h1 := HCL.out
          have h2 := HCH.out
          by_cases h0 : cut < 0
          · exact ⟨(-(cut + 1)).toNat, .inl ⟨h0, by omega, by omega⟩⟩
          · exact ⟨cut.toNat, .inr ⟨by omega, by omega, by omega⟩⟩
        obtain ⟨m, hm⟩ : ∃ m, m = q % 14 := ⟨_, rfl⟩
        have hml : m < 14 := by rw [hm]; exact Nat.mod_lt _ (by omega)
        have hrem : Int.tmod (q : Int) 14 = (m : Int) := by
          rw [hm]
          have e : (14 : Int) = ((14 : Nat) : Int) := by omega
          rw [e]
          simp [Int.tmod]
        have hr3 := rd_new wr (by8 [101, 110, 100]).toArray 5 (3, 4) (wr.heap.size + 1) 3 (by omega) rfl
        have HR3 := Lib.hid hr3
        have HSH := Lib.hid R.out.short
        have OW := Lib.hid R.out.own
        have BW := Lib.hid R.out.below
        have hlen := R.out.len
        clear hm hr3
        rcases hq with ⟨h0, hq, hql⟩ | ⟨h0, hq, hql⟩
        · have hu : IntKind.i64.wrap (cut + 1) = cut + 1 := IntWalk.i64_in _ (by have := HCL.out; omega)
          have hua : wrap64 (cut + 1) = cut + 1 := IntWalk.wrap64_in _ (by have := HCL.out; omega)
          have hu2 : wrap64 (q : Int) = (q : Int) := IntWalk.wrap64_in _ (by omega)
          clear hql
          go_wp2_with fail
          refine (end_any (HR3.out.more (by simp))).mono ?_
          rintro e w3 ⟨g, c3, rfl, hg, hrow, hc3, hm3, hB3⟩
          have HB3 : Hid (Below W.heap.size W w3) := Lib.hid ((BW.out.alloc BW.out.size _).trans (hB3.mono (by have := BW.out.size; simp; omega)))
          have O3 : Hid (w3.ownsRow W.heap.size 5 1 (.slice A5 len c) len (by8 (wraps (es.take i)))) := Lib.hid (own_below (own_below OW.out ((Below.refl wr.heap.size wr).alloc (Nat.le_refl _) _) (fun k hk => (OW.out.lt k hk).2)) hB3 (fun k hk => by have := (OW.out.lt k hk).2; simp; omega))
          have hbm : by8 (endFrame.take m) = (by8 endFrame).take m := by simp [by8, List.map_take]
          have R3 : Hid (Rd w3 w3.heap.size 1 (some ⟨g, 0, none⟩) m (by8 (endFrame.take m))) := Lib.hid (by rw [hbm]; exact hrow.rd.take1 (by omega))
          have j1 : (m : Int) ≤ (c3 : Int) := by omega
          clear hbm hg hrow hc3 hm3 hB3
          go_wp2_with (at_builtin; refine wpList_app _ rfl (.tmp 75) (.tmp 81) 22 rfl W W.heap.size 5 (.int .u8 0) 1 1 Try.underlying22 info5 rfl (by decide) _ len (by8 (wraps (es.take i))) rfl O3.out w3.heap.size (some ⟨g, 0, none⟩) m c3 (by8 (endFrame.take m)) rfl R3.out (by8_one _) (by unfold maxLen; omega) (by omega) HB3.out (Nat.le_refl _) ?_)
          intro A4 c4 w4 hown4 hg4 hB4
          have hcap4 : len + m ≤ c4 ∧ c4 ≤ maxLen := by
            obtain ⟨A', c', hv, h1, h2⟩ := own_slice hown4
            injection hv with hA _ hc
            subst hA hc
            exact ⟨h1, h2⟩
          rw [← by8_append, ← rest_zero] at hown4
          have R4 := Lib.hid (Rd.of_own hown4)
          have HB4 := Lib.hid hB4
          have C4 := Lib.hid hcap4
          clear hown4 hg4 hB4 hcap4 j1
          go_wp2_with fail
          go_loopw [5, 12] (fun v ii wr => ∃ (j len c : Nat) (A : Option Addr), ii = .int .i64 j ∧ v = .slice A len c ∧ Rel2 W es i m j len c A wr) (fun _ ii _ => i - (intOf ii).toNat)
          case atStart => exact ⟨0, _, _, _, rfl, rfl, Nat.zero_le _, R4.out, C4.out.1, C4.out.2, by omega, HB4.out⟩
          case round =>
            clear R4 C4 HB4 R3 O3 HB3 OW BW HR3
            obtain ⟨j, n2, c2, A2, rfl, rfl, hS⟩ := hrel
            have S := Lib.hid hS
            have hji := hS.ji
            have hsm := hS.small
            have hcp := hS.cap
            have hmx := hS.max
            clear hS
            by_cases hj : j < i
            · obtain ⟨e, he⟩ : ∃ e, es[j]? = some e := ⟨es[j]'(by rw [K.out.len]; omega), List.getElem?_eq_getElem _⟩
              obtain ⟨b, off, rfl, hb, hcells⟩ := K.out.cells.resolve_left (by omega)
              obtain ⟨hc0, hc1⟩ := hcells j e he
              have HC0 := Lib.hid hc0
              have HC1 := Lib.hid hc1
              obtain ⟨hk, hB⟩ := K.out.bodies e (List.mem_of_getElem? he)
              have h1000 := HSH.out j e hj he
              have HE := Lib.hid he
              have HB := Lib.hid hB
              clear hcells hc0 hc1 he hB
              obtain ⟨ek, eA, en, ec, el⟩ := e
              simp only at HC0 HC1 hk HB HE h1000
              have hll : el.length = en := by simpa [by8_len] using HB.out.rd.len1
              have hstep := rest_step (m := m) HE.out hj
              have hlr : (restOf es i m j).length = n2 := by simpa [by8_len] using S.out.rd.len1
              have hle2 : 11 + en ≤ n2 := by rw [← hlr, hstep, List.length_append, F.wrap_len, hll]; omega
              have T := Lib.hid ((take_any S.out.rd (rest_byte (fun e he => ⟨(K.out.bodies e he).1, (K.out.bodies e he).2.lt⟩) i m j) hsm hcp hmx).mono fun _ _ h => (hstep ▸ h : TakeRet (F.wrap ek el ++ restOf es i m (j + 1)) _ _ _).wrapped hll (by omega))
              obtain ⟨b2, off2, rfl, hb2, _⟩ := S.out.rd.at_ (by omega)
              have hdrop := S.out.rd.drop1 (k := 11 + en) (c := c2) hle2 hcp
              have e1 : (by8 (restOf es i m j)).drop (11 + en) = by8 (restOf es i m (j + 1)) := by
                rw [hstep, by8_append, List.drop_left']
                rw [by8_len, F.wrap_len, hll]
              rw [e1] at hdrop
              simp only [Option.map_some, addr_add] at hdrop
              obtain ⟨A', hA'⟩ : ∃ A', (if c2 = 11 + en then (some ⟨b2, off2, none⟩ : Option Addr) else some ⟨b2, off2 + (11 + en), none⟩) = A' := ⟨_, rfl⟩
              rw [hA'] at hdrop
              have HD := Lib.hid hdrop
              have HEL := Lib.hid HB.out.lt
              have f1 : (11 : Int) + (en : Int) ≤ (n2 : Int) := by omega
              have f2 : (j : Int) < (N : Int) := by omega
              have f3 : ((11 : Int) + (en : Int)).toNat = 11 + en := by omega
              have f4 : ((ek : Int) != (ek : Int)) = false := by simp
              have f5 : ¬ ((11 : Int) + (en : Int) < 1) := by omega
              have f6 : (n2 : Int) ≤ (c2 : Int) := by omega
              clear hstep hlr hll hdrop e1
              go_wp2_with fail
              refine T.out.mono ?_
              rintro e w6 ⟨A6, c6, rfl, hr6, hB6⟩
              have HB6 := Lib.hid (S.out.below.trans (hB6.mono S.out.below.size))
              have R6 := Lib.hid hr6
              have hd6 : Rd w6 w6.heap.size 1 A' (n2 - (11 + en)) (by8 (restOf es i m (j + 1))) := (HD.out.below hB6).more hB6.size
              have HD6 := Lib.hid hd6
              have k0 : w6.cell? ⟨b, off + j * 4, none⟩ = some (.int .u8 (ek : Nat)) := (HB6.out.cell (p := ⟨b, off + j * 4, none⟩) hb).trans HC0.out
              have k1 : w6.cell? ⟨b, off + j * 4 + 1, none⟩ = some (.slice eA en ec) := (HB6.out.cell (p := ⟨b, off + j * 4 + 1, none⟩) hb).trans HC1.out
              have RB6 := Lib.hid ((HB.out.rd.below HB6.out).more HB6.out.size)
              have hd : decide (el = el) = true := by simp
              clear hr6 hB6 hd6
              go_wp2_with fail
              refine (same_any R6.out RB6.out HEL.out HEL.out).mono ?_
              rintro e w' ⟨rfl, rfl⟩
              clear R6 RB6
              go_wp2_with fail
              go_roundw
              case rel => exact ⟨j + 1, _, _, _, by go_num, rfl, by omega, HD6.out, by omega, by omega, by omega, HB6.out⟩
              case measure => simp [intOf]; omega
            · have hji2 : j = i := by omega
              subst hji2
              have T := Lib.hid ((take_any S.out.rd (rest_byte (fun e he => ⟨(K.out.bodies e he).1, (K.out.bodies e he).2.lt⟩) j m j) hsm hcp hmx).mono fun _ _ h => (rest_end es j m ▸ h : TakeRet ((F.wrap 1 [101, 110, 100]).take m) _ _ _).cut (by simp) (by simpa using hml))
              clear hsm hcp hmx
              go_wp2_with fail
              refine T.out.mono ?_
              rintro e w7 ⟨A7, c7, rfl, hB7⟩
              have HB7 := Lib.hid (S.out.below.trans (hB7.mono S.out.below.size))
              clear hB7
              go_wp2_with fail
              refine (alive_any _).mono ?_
              rintro e w8 ⟨rfl, hB8⟩
              go_wp2_with fail
              go_ret
              exact ⟨by simp, HB7.out.trans (hB8.mono HB7.out.size)⟩
        · have hrem2 : Int.tmod cut 14 = (m : Int) := by rw [hq]; exact hrem
          have hnl : ¬ (cut < 0) := by omega
          clear hql h0 hrem hq
          go_wp2_with fail
          refine (end_any (HR3.out.more (by simp))).mono ?_
          rintro e w3 ⟨g, c3, rfl, hg, hrow, hc3, hm3, hB3⟩
          have HB3 : Hid (Below W.heap.size W w3) := Lib.hid ((BW.out.alloc BW.out.size _).trans (hB3.mono (by have := BW.out.size; simp; omega)))
          have O3 : Hid (w3.ownsRow W.heap.size 5 1 (.slice A5 len c) len (by8 (wraps (es.take i)))) := Lib.hid (own_below (own_below OW.out ((Below.refl wr.heap.size wr).alloc (Nat.le_refl _) _) (fun k hk => (OW.out.lt k hk).2)) hB3 (fun k hk => by have := (OW.out.lt k hk).2; simp; omega))
          have hbm : by8 (endFrame.take m) = (by8 endFrame).take m := by simp [by8, List.map_take]
          have R3 : Hid (Rd w3 w3.heap.size 1 (some ⟨g, 0, none⟩) m (by8 (endFrame.take m))) := Lib.hid (by rw [hbm]; exact hrow.rd.take1 (by omega))
          have j1 : (m : Int) ≤ (c3 : Int) := by omega
          clear hbm hg hrow hc3 hm3 hB3
          go_wp2_with (at_builtin; refine wpList_app _ rfl (.tmp 75) (.tmp 81) 22 rfl W W.heap.size 5 (.int .u8 0) 1 1 Try.underlying22 info5 rfl (by decide) _ len (by8 (wraps (es.take i))) rfl O3.out w3.heap.size (some ⟨g, 0, none⟩) m c3 (by8 (endFrame.take m)) rfl R3.out (by8_one _) (by unfold maxLen; omega) (by omega) HB3.out (Nat.le_refl _) ?_)
          intro A4 c4 w4 hown4 hg4 hB4
          have hcap4 : len + m ≤ c4 ∧ c4 ≤ maxLen := by
            obtain ⟨A', c', hv, h1, h2⟩ := own_slice hown4
            injection hv with hA _ hc
            subst hA hc
            exact ⟨h1, h2⟩
          rw [← by8_append, ← rest_zero] at hown4
          have R4 := Lib.hid (Rd.of_own hown4)
          have HB4 := Lib.hid hB4
          have C4 := Lib.hid hcap4
          clear hown4 hg4 hB4 hcap4 j1
          go_wp2_with fail
          go_loopw [5, 12] (fun v ii wr => ∃ (j len c : Nat) (A : Option Addr), ii = .int .i64 j ∧ v = .slice A len c ∧ Rel2 W es i m j len c A wr) (fun _ ii _ => i - (intOf ii).toNat)
          case atStart => exact ⟨0, _, _, _, rfl, rfl, Nat.zero_le _, R4.out, C4.out.1, C4.out.2, by omega, HB4.out⟩
          case round =>
            clear R4 C4 HB4 R3 O3 HB3 OW BW HR3
            obtain ⟨j, n2, c2, A2, rfl, rfl, hS⟩ := hrel
            have S := Lib.hid hS
            have hji := hS.ji
            have hsm := hS.small
            have hcp := hS.cap
            have hmx := hS.max
            clear hS
            by_cases hj : j < i
            · obtain ⟨e, he⟩ : ∃ e, es[j]? = some e := ⟨es[j]'(by rw [K.out.len]; omega), List.getElem?_eq_getElem _⟩
              obtain ⟨b, off, rfl, hb, hcells⟩ := K.out.cells.resolve_left (by omega)
              obtain ⟨hc0, hc1⟩ := hcells j e he
              have HC0 := Lib.hid hc0
              have HC1 := Lib.hid hc1
              obtain ⟨hk, hB⟩ := K.out.bodies e (List.mem_of_getElem? he)
              have h1000 := HSH.out j e hj he
              have HE := Lib.hid he
              have HB := Lib.hid hB
              clear hcells hc0 hc1 he hB
              obtain ⟨ek, eA, en, ec, el⟩ := e
              simp only at HC0 HC1 hk HB HE h1000
              have hll : el.length = en := by simpa [by8_len] using HB.out.rd.len1
              have hstep := rest_step (m := m) HE.out hj
              have hlr : (restOf es i m j).length = n2 := by simpa [by8_len] using S.out.rd.len1
              have hle2 : 11 + en ≤ n2 := by rw [← hlr, hstep, List.length_append, F.wrap_len, hll]; omega
              have T := Lib.hid ((take_any S.out.rd (rest_byte (fun e he => ⟨(K.out.bodies e he).1, (K.out.bodies e he).2.lt⟩) i m j) hsm hcp hmx).mono fun _ _ h => (hstep ▸ h : TakeRet (F.wrap ek el ++ restOf es i m (j + 1)) _ _ _).wrapped hll (by omega))
              obtain ⟨b2, off2, rfl, hb2, _⟩ := S.out.rd.at_ (by omega)
              have hdrop := S.out.rd.drop1 (k := 11 + en) (c := c2) hle2 hcp
              have e1 : (by8 (restOf es i m j)).drop (11 + en) = by8 (restOf es i m (j + 1)) := by
                rw [hstep, by8_append, List.drop_left']
                rw [by8_len, F.wrap_len, hll]
              rw [e1] at hdrop
              simp only [Option.map_some, addr_add] at hdrop
              obtain ⟨A', hA'⟩ : ∃ A', (if c2 = 11 + en then (some ⟨b2, off2, none⟩ : Option Addr) else some ⟨b2, off2 + (11 + en), none⟩) = A' := ⟨_, rfl⟩
              rw [hA'] at hdrop
              have HD := Lib.hid hdrop
              have HEL := Lib.hid HB.out.lt
              have f1 : (11 : Int) + (en : Int) ≤ (n2 : Int) := by omega
              have f2 : (j : Int) < (N : Int) := by omega
              have f3 : ((11 : Int) + (en : Int)).toNat = 11 + en := by omega
              have f4 : ((ek : Int) != (ek : Int)) = false := by simp
              have f5 : ¬ ((11 : Int) + (en : Int) < 1) := by omega
              have f6 : (n2 : Int) ≤ (c2 : Int) := by omega
              clear hstep hlr hll hdrop e1
              go_wp2_with fail
              refine T.out.mono ?_
              rintro e w6 ⟨A6, c6, rfl, hr6, hB6⟩
              have HB6 := Lib.hid (S.out.below.trans (hB6.mono S.out.below.size))
              have R6 := Lib.hid hr6
              have hd6 : Rd w6 w6.heap.size 1 A' (n2 - (11 + en)) (by8 (restOf es i m (j + 1))) := (HD.out.below hB6).more hB6.size
              have HD6 := Lib.hid hd6
              have k0 : w6.cell? ⟨b, off + j * 4, none⟩ = some (.int .u8 (ek : Nat)) := (HB6.out.cell (p := ⟨b, off + j * 4, none⟩) hb).trans HC0.out
              have k1 : w6.cell? ⟨b, off + j * 4 + 1, none⟩ = some (.slice eA en ec) := (HB6.out.cell (p := ⟨b, off + j * 4 + 1, none⟩) hb).trans HC1.out
              have RB6 := Lib.hid ((HB.out.rd.below HB6.out).more HB6.out.size)
              have hd : decide (el = el) = true := by simp
              clear hr6 hB6 hd6
              go_wp2_with fail
              refine (same_any R6.out RB6.out HEL.out HEL.out).mono ?_
              rintro e w' ⟨rfl, rfl⟩
              clear R6 RB6
              go_wp2_with fail
              go_roundw
              case rel => exact ⟨j + 1, _, _, _, by go_num, rfl, by omega, HD6.out, by omega, by omega, by omega, HB6.out⟩
              case measure => simp [intOf]; omega
            · have hji2 : j = i := by omega
              subst hji2
              have T := Lib.hid ((take_any S.out.rd (rest_byte (fun e he => ⟨(K.out.bodies e he).1, (K.out.bodies e he).2.lt⟩) j m j) hsm hcp hmx).mono fun _ _ h => (rest_end es j m ▸ h : TakeRet ((F.wrap 1 [101, 110, 100]).take m) _ _ _).cut (by simp) (by simpa using hml))
              clear hsm hcp hmx
              go_wp2_with fail
              refine T.out.mono ?_
              rintro e w7 ⟨A7, c7, rfl, hB7⟩
              have HB7 := Lib.hid (S.out.below.trans (hB7.mono S.out.below.size))
              clear hB7
              go_wp2_with fail
              refine (alive_any _).mono ?_
              rintro e w8 ⟨rfl, hB8⟩
              go_wp2_with fail
              go_ret
              exact ⟨by simp, HB7.out.trans (hB8.mono HB7.out.size)⟩
    · have hiNb : N ≤ i := by omega
      have kc := fun (w : World) (C : Array Value) (n c : Nat) => Lib.run_convert_bytes_const (P := Try.prog) w 22 5 C n c Try.underlying22 Try.underlying5
      obtain ⟨q, hq⟩ : ∃ q : Nat, (cut < 0 ∧ -(cut + 1) = (q : Int) ∧ q < 9223372036854775808) ∨ (0 ≤ cut ∧ cut = (q : Int) ∧ q < 9223372036854775808) := by
        have h1 := HCL.out
        have h2 := HCH.out
        by_cases h0 : cut < 0
        · exact ⟨(-(cut + 1)).toNat, .inl ⟨h0, by omega, by omega⟩⟩
        · exact ⟨cut.toNat, .inr ⟨by omega, by omega, by omega⟩⟩
      obtain ⟨m, hm⟩ : ∃ m, m = q % 14 := ⟨_, rfl⟩
      have hml : m < 14 := by rw [hm]; exact Nat.mod_lt _ (by omega)
      have hrem : Int.tmod (q : Int) 14 = (m : Int) := by
        rw [hm]
        have e : (14 : Int) = ((14 : Nat) : Int) := by omega
        rw [e]
        simp [Int.tmod]
      have hr3 := rd_new wr (by8 [101, 110, 100]).toArray 5 (3, 4) (wr.heap.size + 1) 3 (by omega) rfl
      have HR3 := Lib.hid hr3
      have HSH := Lib.hid R.out.short
      have OW := Lib.hid R.out.own
      have BW := Lib.hid R.out.below
      have hlen := R.out.len
      clear hm hr3
      rcases hq with ⟨h0, hq, hql⟩ | ⟨h0, hq, hql⟩
      · have hu : IntKind.i64.wrap (cut + 1) = cut + 1 := IntWalk.i64_in _ (by have := HCL.out; omega)
        have hua : wrap64 (cut + 1) = cut + 1 := IntWalk.wrap64_in _ (by have := HCL.out; omega)
        have hu2 : wrap64 (q : Int) = (q : Int) := IntWalk.wrap64_in _ (by omega)
        clear hql
        go_wp2_with fail
        refine (end_any (HR3.out.more (by simp))).mono ?_
        rintro e w3 ⟨g, c3, rfl, hg, hrow, hc3, hm3, hB3⟩
        have HB3 : Hid (Below W.heap.size W w3) := Lib.hid ((BW.out.alloc BW.out.size _).trans (hB3.mono (by have := BW.out.size; simp; omega)))
        have O3 : Hid (w3.ownsRow W.heap.size 5 1 (.slice A5 len c) len (by8 (wraps (es.take i)))) := Lib.hid (own_below (own_below OW.out ((Below.refl wr.heap.size wr).alloc (Nat.le_refl _) _) (fun k hk => (OW.out.lt k hk).2)) hB3 (fun k hk => by have := (OW.out.lt k hk).2; simp; omega))
        have hbm : by8 (endFrame.take m) = (by8 endFrame).take m := by simp [by8, List.map_take]
        have R3 : Hid (Rd w3 w3.heap.size 1 (some ⟨g, 0, none⟩) m (by8 (endFrame.take m))) := Lib.hid (by rw [hbm]; exact hrow.rd.take1 (by omega))
        have j1 : (m : Int) ≤ (c3 : Int) := by omega
        clear hbm hg hrow hc3 hm3 hB3
        go_wp2_with (at_builtin; refine wpList_app _ rfl (.tmp 75) (.tmp 81) 22 rfl W W.heap.size 5 (.int .u8 0) 1 1 Try.underlying22 info5 rfl (by decide) _ len (by8 (wraps (es.take i))) rfl O3.out w3.heap.size (some ⟨g, 0, none⟩) m c3 (by8 (endFrame.take m)) rfl R3.out (by8_one _) (by unfold maxLen; omega) (by omega) HB3.out (Nat.le_refl _) ?_)
        intro A4 c4 w4 hown4 hg4 hB4
        have hcap4 : len + m ≤ c4 ∧ c4 ≤ maxLen := by
          obtain ⟨A', c', hv, h1, h2⟩ := own_slice hown4
          injection hv with hA _ hc
          subst hA hc
          exact ⟨h1, h2⟩
        rw [← by8_append, ← rest_zero] at hown4
        have R4 := Lib.hid (Rd.of_own hown4)
        have HB4 := Lib.hid hB4
        have C4 := Lib.hid hcap4
        clear hown4 hg4 hB4 hcap4 j1
        go_wp2_with fail
        go_loopw [5, 12] (fun v ii wr => ∃ (j len c : Nat) (A : Option Addr), ii = .int .i64 j ∧ v = .slice A len c ∧ Rel2 W es i m j len c A wr) (fun _ ii _ => i - (intOf ii).toNat)
        case atStart => exact ⟨0, _, _, _, rfl, rfl, Nat.zero_le _, R4.out, C4.out.1, C4.out.2, by omega, HB4.out⟩
        case round =>
          clear R4 C4 HB4 R3 O3 HB3 OW BW HR3
          obtain ⟨j, n2, c2, A2, rfl, rfl, hS⟩ := hrel
          have S := Lib.hid hS
          have hji := hS.ji
          have hsm := hS.small
          have hcp := hS.cap
          have hmx := hS.max
          clear hS
          by_cases hj : j < i
          · obtain ⟨e, he⟩ : ∃ e, es[j]? = some e := ⟨es[j]'(by rw [K.out.len]; omega), List.getElem?_eq_getElem _⟩
            obtain ⟨b, off, rfl, hb, hcells⟩ := K.out.cells.resolve_left (by omega)
            obtain ⟨hc0, hc1⟩ := hcells j e he
            have HC0 := Lib.hid hc0
            have HC1 := Lib.hid hc1
            obtain ⟨hk, hB⟩ := K.out.bodies e (List.mem_of_getElem? he)
            have h1000 := HSH.out j e hj he
            have HE := Lib.hid he
            have HB := Lib.hid hB
            clear hcells hc0 hc1 he hB
            obtain ⟨ek, eA, en, ec, el⟩ := e
            simp only at HC0 HC1 hk HB HE h1000
            have hll : el.length = en := by simpa [by8_len] using HB.out.rd.len1
            have hstep := rest_step (m := m) HE.out hj
            have hlr : (restOf es i m j).length = n2 := by simpa [by8_len] using S.out.rd.len1
            have hle2 : 11 + en ≤ n2 := by rw [← hlr, hstep, List.length_append, F.wrap_len, hll]; omega
            have T := Lib.hid ((take_any S.out.rd (rest_byte (fun e he => ⟨(K.out.bodies e he).1, (K.out.bodies e he).2.lt⟩) i m j) hsm hcp hmx).mono fun _ _ h => (hstep ▸ h : TakeRet (F.wrap ek el ++ restOf es i m (j + 1)) _ _ _).wrapped hll (by omega))
            obtain ⟨b2, off2, rfl, hb2, _⟩ := S.out.rd.at_ (by omega)
            have hdrop := S.out.rd.drop1 (k := 11 + en) (c := c2) hle2 hcp
            have e1 : (by8 (restOf es i m j)).drop (11 + en) = by8 (restOf es i m (j + 1)) := by
              rw [hstep, by8_append, List.drop_left']
              rw [by8_len, F.wrap_len, hll]
            rw [e1] at hdrop
            simp only [Option.map_some, addr_add] at hdrop
            obtain ⟨A', hA'⟩ : ∃ A', (if c2 = 11 + en then (some ⟨b2, off2, none⟩ : Option Addr) else some ⟨b2, off2 + (11 + en), none⟩) = A' := ⟨_, rfl⟩
            rw [hA'] at hdrop
            have HD := Lib.hid hdrop
            have HEL := Lib.hid HB.out.lt
            have f1 : (11 : Int) + (en : Int) ≤ (n2 : Int) := by omega
            have f2 : (j : Int) < (N : Int) := by omega
            have f3 : ((11 : Int) + (en : Int)).toNat = 11 + en := by omega
            have f4 : ((ek : Int) != (ek : Int)) = false := by simp
            have f5 : ¬ ((11 : Int) + (en : Int) < 1) := by omega
            have f6 : (n2 : Int) ≤ (c2 : Int) := by omega
            clear hstep hlr hll hdrop e1
            go_wp2_with fail
            refine T.out.mono ?_
            rintro e w6 ⟨A6, c6, rfl, hr6, hB6⟩
            have HB6 := Lib.hid (S.out.below.trans (hB6.mono S.out.below.size))
            have R6 := Lib.hid hr6
            have hd6 : Rd w6 w6.heap.size 1 A' (n2 - (11 + en)) (by8 (restOf es i m (j + 1))) := (HD.out.below hB6).more hB6.size
            have HD6 := Lib.hid hd6
            have k0 : w6.cell? ⟨b, off + j * 4, none⟩ = some (.int .u8 (ek : Nat)) := (HB6.out.cell (p := ⟨b, off + j * 4, none⟩) hb).trans HC0.out
            have k1 : w6.cell? ⟨b, off + j * 4 + 1, none⟩ = some (.slice eA en ec) := (HB6.out.cell (p := ⟨b, off + j * 4 + 1, none⟩) hb).trans HC1.out
            have RB6 := Lib.hid ((HB.out.rd.below HB6.out).more HB6.out.size)
            have hd : decide (el = el) = true := by simp
            clear hr6 hB6 hd6
            go_wp2_with fail
            refine (same_any R6.out RB6.out HEL.out HEL.out).mono ?_
            rintro e w' ⟨rfl, rfl⟩
            clear R6 RB6
            go_wp2_with fail
            go_roundw
            case rel => exact ⟨j + 1, _, _, _, by go_num, rfl, by omega, HD6.out, by omega, by omega, by omega, HB6.out⟩
            case measure => simp [intOf]; omega
          · have hji2 : j = i := by omega
            subst hji2
            have T := Lib.hid ((take_any S.out.rd (rest_byte (fun e he => ⟨(K.out.bodies e he).1, (K.out.bodies e he).2.lt⟩) j m j) hsm hcp hmx).mono fun _ _ h => (rest_end es j m ▸ h : TakeRet ((F.wrap 1 [101, 110, 100]).take m) _ _ _).cut (by simp) (by simpa using hml))
            clear hsm hcp hmx
            go_wp2_with fail
            refine T.out.mono ?_
            rintro e w7 ⟨A7, c7, rfl, hB7⟩
            have HB7 := Lib.hid (S.out.below.trans (hB7.mono S.out.below.size))
            clear hB7
            go_wp2_with fail
            refine (alive_any _).mono ?_
            rintro e w8 ⟨rfl, hB8⟩
            go_wp2_with fail
            go_ret
            exact ⟨by simp, HB7.out.trans (hB8.mono HB7.out.size)⟩
      · have hrem2 : Int.tmod cut 14 = (m : Int) := by rw [hq]; exact hrem
        have hnl : ¬ (cut < 0) := by omega
        clear hql h0 hrem hq
        go_wp2_with fail
        refine (end_any (HR3.out.more (by simp))).mono ?_
        rintro e w3 ⟨g, c3, rfl, hg, hrow, hc3, hm3, hB3⟩
        have HB3 : Hid (Below W.heap.size W w3) := Lib.hid ((BW.out.alloc BW.out.size _).trans (hB3.mono (by have := BW.out.size; simp; omega)))
        have O3 : Hid (w3.ownsRow W.heap.size 5 1 (.slice A5 len c) len (by8 (wraps (es.take i)))) := Lib.hid (own_below (own_below OW.out ((Below.refl wr.heap.size wr).alloc (Nat.le_refl _) _) (fun k hk => (OW.out.lt k hk).2)) hB3 (fun k hk => by have := (OW.out.lt k hk).2; simp; omega))
        have hbm : by8 (endFrame.take m) = (by8 endFrame).take m := by simp [by8, List.map_take]
        have R3 : Hid (Rd w3 w3.heap.size 1 (some ⟨g, 0, none⟩) m (by8 (endFrame.take m))) := Lib.hid (by rw [hbm]; exact hrow.rd.take1 (by omega))
        have j1 : (m : Int) ≤ (c3 : Int) := by omega
        clear hbm hg hrow hc3 hm3 hB3
        go_wp2_with (at_builtin; refine wpList_app _ rfl (.tmp 75) (.tmp 81) 22 rfl W W.heap.size 5 (.int .u8 0) 1 1 Try.underlying22 info5 rfl (by decide) _ len (by8 (wraps (es.take i))) rfl O3.out w3.heap.size (some ⟨g, 0, none⟩) m c3 (by8 (endFrame.take m)) rfl R3.out (by8_one _) (by unfold maxLen; omega) (by omega) HB3.out (Nat.le_refl _) ?_)
        intro A4 c4 w4 hown4 hg4 hB4
        have hcap4 : len + m ≤ c4 ∧ c4 ≤ maxLen := by
          obtain ⟨A', c', hv, h1, h2⟩ := own_slice hown4
          injection hv with hA _ hc
          subst hA hc
          exact ⟨h1, h2⟩
        rw [← by8_append, ← rest_zero] at hown4
        have R4 := Lib.hid (Rd.of_own hown4)
        have HB4 := Lib.hid hB4
        have C4 := Lib.hid hcap4
        clear hown4 hg4 hB4 hcap4 j1
        go_wp2_with fail
        go_loopw [5, 12] (fun v ii wr => ∃ (j len c : Nat) (A : Option Addr), ii = .int .i64 j ∧ v = .slice A len c ∧ Rel2 W es i m j len c A wr) (fun _ ii _ => i - (intOf ii).toNat)
        case atStart => exact ⟨0, _, _, _, rfl, rfl, Nat.zero_le _, R4.out, C4.out.1, C4.out.2, by omega, HB4.out⟩
        case round =>
          clear R4 C4 HB4 R3 O3 HB3 OW BW HR3
          obtain ⟨j, n2, c2, A2, rfl, rfl, hS⟩ := hrel
          have S := Lib.hid hS
          have hji := hS.ji
          have hsm := hS.small
          have hcp := hS.cap
          have hmx := hS.max
          clear hS
          by_cases hj : j < i
          · obtain ⟨e, he⟩ : ∃ e, es[j]? = some e := ⟨es[j]'(by rw [K.out.len]; omega), List.getElem?_eq_getElem _⟩
            obtain ⟨b, off, rfl, hb, hcells⟩ := K.out.cells.resolve_left (by omega)
            obtain ⟨hc0, hc1⟩ := hcells j e he
            have HC0 := Lib.hid hc0
            have HC1 := Lib.hid hc1
            obtain ⟨hk, hB⟩ := K.out.bodies e (List.mem_of_getElem? he)
            have h1000 := HSH.out j e hj he
            have HE := Lib.hid he
            have HB := Lib.hid hB
            clear hcells hc0 hc1 he hB
            obtain ⟨ek, eA, en, ec, el⟩ := e
            simp only at HC0 HC1 hk HB HE h1000
            have hll : el.length = en := by simpa [by8_len] using HB.out.rd.len1
            have hstep := rest_step (m := m) HE.out hj
            have hlr : (restOf es i m j).length = n2 := by simpa [by8_len] using S.out.rd.len1
            have hle2 : 11 + en ≤ n2 := by rw [← hlr, hstep, List.length_append, F.wrap_len, hll]; omega
            have T := Lib.hid ((take_any S.out.rd (rest_byte (fun e he => ⟨(K.out.bodies e he).1, (K.out.bodies e he).2.lt⟩) i m j) hsm hcp hmx).mono fun _ _ h => (hstep ▸ h : TakeRet (F.wrap ek el ++ restOf es i m (j + 1)) _ _ _).wrapped hll (by omega))
            obtain ⟨b2, off2, rfl, hb2, _⟩ := S.out.rd.at_ (by omega)
            have hdrop := S.out.rd.drop1 (k := 11 + en) (c := c2) hle2 hcp
            have e1 : (by8 (restOf es i m j)).drop (11 + en) = by8 (restOf es i m (j + 1)) := by
              rw [hstep, by8_append, List.drop_left']
              rw [by8_len, F.wrap_len, hll]
            rw [e1] at hdrop
            simp only [Option.map_some, addr_add] at hdrop
            obtain ⟨A', hA'⟩ : ∃ A', (if c2 = 11 + en then (some ⟨b2, off2, none⟩ : Option Addr) else some ⟨b2, off2 + (11 + en), none⟩) = A' := ⟨_, rfl⟩
            rw [hA'] at hdrop
            have HD := Lib.hid hdrop
            have HEL := Lib.hid HB.out.lt
            have f1 : (11 : Int) + (en : Int) ≤ (n2 : Int) := by omega
            have f2 : (j : Int) < (N : Int) := by omega
            have f3 : ((11 : Int) + (en : Int)).toNat = 11 + en := by omega
            have f4 : ((ek : Int) != (ek : Int)) = false := by simp
            have f5 : ¬ ((11 : Int) + (en : Int) < 1) := by omega
            have f6 : (n2 : Int) ≤ (c2 : Int) := by omega
            clear hstep hlr hll hdrop e1
            go_wp2_with fail
            refine T.out.mono ?_
            rintro e w6 ⟨A6, c6, rfl, hr6, hB6⟩
            have HB6 := Lib.hid (S.out.below.trans (hB6.mono S.out.below.size))
            have R6 := Lib.hid hr6
            have hd6 : Rd w6 w6.heap.size 1 A' (n2 - (11 + en)) (by8 (restOf es i m (j + 1))) := (HD.out.below hB6).more hB6.size
            have HD6 := Lib.hid hd6
            have k0 : w6.cell? ⟨b, off + j * 4, none⟩ = some (.int .u8 (ek : Nat)) := (HB6.out.cell (p := ⟨b, off + j * 4, none⟩) hb).trans HC0.out
            have k1 : w6.cell? ⟨b, off + j * 4 + 1, none⟩ = some (.slice eA en ec) := (HB6.out.cell (p := ⟨b, off + j * 4 + 1, none⟩) hb).trans HC1.out
            have RB6 := Lib.hid ((HB.out.rd.below HB6.out).more HB6.out.size)
            have hd : decide (el = el) = true := by simp
            clear hr6 hB6 hd6
            go_wp2_with fail
            refine (same_any R6.out RB6.out HEL.out HEL.out).mono ?_
            rintro e w' ⟨rfl, rfl⟩
            clear R6 RB6
            go_wp2_with fail
            go_roundw
            case rel => exact ⟨j + 1, _, _, _, by go_num, rfl, by omega, HD6.out, by omega, by omega, by omega, HB6.out⟩
            case measure => simp [intOf]; omega
          · have hji2 : j = i := by omega
            subst hji2
            have T := Lib.hid ((take_any S.out.rd (rest_byte (fun e he => ⟨(K.out.bodies e he).1, (K.out.bodies e he).2.lt⟩) j m j) hsm hcp hmx).mono fun _ _ h => (rest_end es j m ▸ h : TakeRet ((F.wrap 1 [101, 110, 100]).take m) _ _ _).cut (by simp) (by simpa using hml))
            clear hsm hcp hmx
            go_wp2_with fail
            refine T.out.mono ?_
            rintro e w7 ⟨A7, c7, rfl, hB7⟩
            have HB7 := Lib.hid (S.out.below.trans (hB7.mono S.out.below.size))
            clear hB7
            go_wp2_with fail
            refine (alive_any _).mono ?_
            rintro e w8 ⟨rfl, hB8⟩
            go_wp2_with fail
            go_ret
            exact ⟨by simp, HB7.out.trans (hB8.mono HB7.out.size)⟩
end Go.Proofs.Ytfbiobglckjilaa
