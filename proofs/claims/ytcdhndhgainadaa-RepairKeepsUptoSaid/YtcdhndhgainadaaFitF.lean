/-
  The contract of the program's fit, from wrap's.
-/
import Derived.Test.YtcdhndhgainadaaCollN
import Derived.Test.YtcdhndhgainadaaHeldLate
import Derived.Shelf.Abstract
namespace Go.Proofs.Ytcdhndhgainadaa
open Go Go.RowKit Go.Shelf
set_option linter.unusedVariables false
set_option linter.unusedSimpArgs false
attribute [local go_sem] Oper.semAt_some

/-- what is asked of wrap, at a parent's kind -/
def WrapC (f : Nat) (p : ByteArray) (sv : Srt → Value) : Prop := ∀ (w : World) (S : Nat → Prop) (s : Srt) (A : Option Addr) (m c : Nat) (run : List RT), s ≠ .stay → run ≠ [] → (∀ t ∈ run, Good t) → m ≤ 900000 → (∀ b, S b → b < w.heap.size) →
  RdF w S A m c run → ∃ t, wrapT (kd p) s run = [t] ∧ Calls Try.prog f #[.string p, sv s, .slice A m c] w (GivesN w S t)
/-- what is asked of fit, at a parent's kind -/
def FitC (f : Nat) (p : ByteArray) : Prop := ∀ (w : World) (S : Nat → Prop) (A : Option Addr) (n c : Nat) (ts : List RT), (∀ t ∈ ts, Good t) → n ≤ 900000 → (∀ b, S b → b < w.heap.size) →
  RdF w S A n c ts → Calls Try.prog f #[.string p, .slice A n c] w (GivesR w S (fitT (kd p) ts))

theorem nruns_gives (n : Nat) (hn : 1 ≤ n) (Bl Bs Bp n₀ : Nat) (p : ByteArray) (hp : Par (kd p)) (S0 : Nat → Prop) (hS0 : ∀ b, S0 b → b < n₀) (A0 : Option Addr) (len cap : Nat) (ts : List RT) (hG : ∀ t ∈ ts, Good t) (hlen : len ≤ 900000)
    (w : World) (hBl : Boxed w Bl 29 (.slice A0 len cap)) (hBs : Boxed w Bs 60 (clo Bp)) (hrd : RdF w S0 A0 len cap ts) (hn₀ : n₀ ≤ w.heap.size) (hl : n₀ ≤ Bl) (hs : n₀ ≤ Bs) (hne : Bl ≠ Bs) :
    SeqGives n Try.prog 56 #[.pointer (some ⟨Bl, 0, none⟩), .pointer (some ⟨Bs, 0, none⟩)] (EncN n₀ S0) (fun W => Boxed W Bp 9 (.string p)) n₀ (runsBy (byP p) ts) (fun k => k = Bl ∨ k = Bs) w := fun l J Jx W hW hJ hJP hY h0 =>
  nruns1_in n hn l Bl Bs Bp n₀ p hp S0 hS0 A0 len cap ts J Jx hJ hJP hY W (fun k => k = Bl ∨ k = Bs)
    { inv := h0
      box := (hW.block _ hBl.lt).trans hBl
      boxS := (hW.block _ hBs.lt).trans hBs
      boxP := hJP _ _ _ h0
      rd := hrd.stay (.below hW fun _ _ h => h)
      all := rfl
      ownL := .inl rfl
      ownS := .inr rfl
      low := fun j hj => by rcases hj with rfl | rfl <;> assumption
      kinds := hG
      high := Nat.le_trans hn₀ hW.size
      hi := fun j hj => by
        rcases hj with rfl | rfl
        · exact Nat.lt_of_lt_of_le hBl.lt hW.size
        · exact Nat.lt_of_lt_of_le hBs.lt hW.size
      size := hlen
      neS := hne }

theorem encN_keep {n₀ : Nat} {S0 : Nat → Prop} (hS0 : ∀ b, S0 b → b < n₀) : ∀ x U vs W W', EncN n₀ S0 x U vs W → KeepsT U W W' → Below n₀ W W' → EncN n₀ S0 x U vs W' := by
  rintro x U vs W W' ⟨hU, A, m, c, rfl, hr⟩ hk hb
  exact ⟨hU, A, m, c, rfl, hr.stay ⟨hb.size, fun _ _ h => h, fun b hbl h => h.elim (fun h => hb.block b (hS0 b h)) (fun h => hk.same b h)⟩⟩

/-- what the runs come to -/
def outOf (p : Kd) (rs : List (Srt × List RT)) : List RT := rs.flatMap fun q => wrapT p q.1 q.2
theorem outOf_snoc (p : Kd) (rs : List (Srt × List RT)) (x : Srt × List RT) : outOf p (rs ++ [x]) = outOf p rs ++ wrapT p x.1 x.2 := by simp [outOf]
theorem wrapT_len (p : Kd) (s : Srt) (run : List RT) (h : run ≠ []) : (wrapT p s run).length ≤ run.length := by
  have h1 : 1 ≤ run.length := by cases run with
    | nil => exact absurd rfl h
    | cons => simp
  cases s <;> cases p <;> simp only [wrapT, wrapF] <;> (try split) <;> simp <;> omega
theorem outOf_len (p : Kd) (rs : List (Srt × List RT)) (h : ∀ q ∈ rs, q.2 ≠ []) : (outOf p rs).length ≤ (rs.flatMap (·.2)).length := by
  induction rs with
  | nil => simp [outOf]
  | cons q rs ih =>
    have := wrapT_len p q.1 q.2 (h q (by simp))
    have := ih fun q hq => h q (List.mem_cons_of_mem _ hq)
    simp only [outOf, List.flatMap_cons, List.length_append] at *
    omega
theorem pre_len {p : ByteArray} {ts : List RT} {pre : List (Srt × List RT)} (h : pre <+: runsBy (byP p) ts) : (pre.flatMap (·.2)).length ≤ ts.length := by
  obtain ⟨r, hr⟩ := h
  have := runsBy_flat (byP p) ts
  rw [← hr, List.flatMap_append] at this
  rw [← this, List.length_append]
  omega

set_option maxRecDepth 100000 in
set_option maxHeartbeats 4000000 in
theorem fit40_any (p : ByteArray) (hp : Par (kd p)) (hW : WrapC 50 p fun s => .string s.str) : FitC 40 p := by
  intro w S A n c ts hG hn hS hr
  refine (callsIn_wide (n := 6)).1 ?_
  have HW := Lib.hid hW
  have HG := Lib.hid hG
  have HS := Lib.hid hS
  have HR := Lib.hid hr
  have HPp := Lib.hid hp
  have HTL := Lib.hid hr.length
  clear hW hG hS hr hp
  refine callsIn_of_wp_marks Try.func40 rfl trivial ?_ rfl
  simp only [Try.ntmps40, List.size_toArray, List.length_cons, List.length_nil, Nat.reduceAdd, Nat.reduceSub, Array.replicate_succ, Array.replicate_zero, List.push_toArray, List.append_toArray, List.nil_append, List.cons_append]
  gi_wp2_with fail
  refine ⟨trivial, ?_⟩
  refine (nmk_any w.heap.size 5 _ _ _ _ _ rfl).mono ?_
  rintro e w' ⟨rfl, rfl⟩
  have hsz : ((((w.alloc (.cells #[.string p] 9)).alloc (.cells #[.slice none 0 0] 29)).alloc (.cells #[.slice A n c] 29)).alloc (.cells #[clo w.heap.size] 60)).heap.size = w.heap.size + 4 := by simp
  have bP : Boxed ((((w.alloc (.cells #[.string p] 9)).alloc (.cells #[.slice none 0 0] 29)).alloc (.cells #[.slice A n c] 29)).alloc (.cells #[clo w.heap.size] 60)) w.heap.size 9 (.string p) := (((Boxed.new w 9 (.string p)).alloc _).alloc _).alloc _
  have bO : Boxed ((((w.alloc (.cells #[.string p] 9)).alloc (.cells #[.slice none 0 0] 29)).alloc (.cells #[.slice A n c] 29)).alloc (.cells #[clo w.heap.size] 60)) (w.heap.size + 1) 29 (.slice none 0 0) := by
    have := Boxed.new (w.alloc (.cells #[.string p] 9)) 29 (.slice none 0 0)
    rw [World.size_alloc] at this
    exact (this.alloc _).alloc _
  have bL : Boxed ((((w.alloc (.cells #[.string p] 9)).alloc (.cells #[.slice none 0 0] 29)).alloc (.cells #[.slice A n c] 29)).alloc (.cells #[clo w.heap.size] 60)) (w.heap.size + 2) 29 (.slice A n c) := by
    have := Boxed.new ((w.alloc (.cells #[.string p] 9)).alloc (.cells #[.slice none 0 0] 29)) 29 (.slice A n c)
    rw [World.size_alloc, World.size_alloc] at this
    exact this.alloc _
  have bS : Boxed ((((w.alloc (.cells #[.string p] 9)).alloc (.cells #[.slice none 0 0] 29)).alloc (.cells #[.slice A n c] 29)).alloc (.cells #[clo w.heap.size] 60)) (w.heap.size + 3) 60 (clo w.heap.size) := by
    have := Boxed.new (((w.alloc (.cells #[.string p] 9)).alloc (.cells #[.slice none 0 0] 29)).alloc (.cells #[.slice A n c] 29)) 60 (clo w.heap.size)
    rwa [World.size_alloc, World.size_alloc, World.size_alloc] at this
  have hB4 : Below w.heap.size w ((((w.alloc (.cells #[.string p] 9)).alloc (.cells #[.slice none 0 0] 29)).alloc (.cells #[.slice A n c] 29)).alloc (.cells #[clo w.heap.size] 60)) := blOn (blOn (blOn (blAl _) _) _) _
  generalize hW4 : ((((w.alloc (.cells #[.string p] 9)).alloc (.cells #[.slice none 0 0] 29)).alloc (.cells #[.slice A n c] 29)).alloc (.cells #[clo w.heap.size] 60)) = W4 at *
  clear hW4
  have HSZ := Lib.hid hsz
  have HBP := Lib.hid bP
  have HBO := Lib.hid bO
  have HBL := Lib.hid bL
  have HBS := Lib.hid bS
  have HB4 := Lib.hid hB4
  have hI : AbidesT (fun (pre : List (Srt × List RT)) T W => (∃ zs : List (Z RT 6), vz zs = outOf (kd p) pre ∧ CollN T W w.heap.size (w.heap.size + 1) S zs ∧ w.heap.size ≤ W.heap.size) ∧ Below w.heap.size w W ∧ Boxed W w.heap.size 9 (.string p) ∧ ¬ T w.heap.size) := by
    rintro pre T T' W W' ⟨⟨zs, hz, hC, hn⟩, hb, hx, hnT⟩ hm ht
    obtain ⟨hC', hn'⟩ := CollN.abides zs T T' W W' ⟨hC, hn⟩ hm ht
    refine ⟨⟨zs, hz, hC', hn'⟩, hb.trans (hm.below hn hC.low), (hm.block _ hx.lt hnT).trans hx, fun h => ?_⟩
    rcases ht _ h with h1 | h1
    · exact hnT h1
    · have := hx.lt; omega
  have HI := Lib.hid hI
  clear hsz bP bO bL bS hB4 hI
  gi_wp2_with fail
  refine wpIn_rangeFunc_G (n := 6) (by omega) (gf := 56) (lb := #[.pointer (some ⟨w.heap.size + 2, 0, none⟩), .pointer (some ⟨w.heap.size + 3, 0, none⟩)]) rfl (enters_of Try.func56 (by kernel_rfl) rfl)
    (nruns_gives 5 (by omega) (w.heap.size + 2) (w.heap.size + 3) w.heap.size w.heap.size p HPp.out S HS.out A n c ts HG.out hn W4 HBL.out HBS.out (HR.out.stay (.below HB4.out fun _ _ h => h)) HB4.out.size (by omega) (by omega) (by omega)) HB4.out.size (Below.refl _ _) (fun k hk => by have := HSZ.out; rcases hk with rfl | rfl <;> omega)
    (fun x U vs W h => by obtain ⟨_, A', m', c', rfl, _⟩ := h; rfl) (encN_keep HS.out)
    (fun pre T W => (∃ zs : List (Z RT 6), vz zs = outOf (kd p) pre ∧ CollN T W w.heap.size (w.heap.size + 1) S zs ∧ w.heap.size ≤ W.heap.size) ∧ Below w.heap.size w W ∧ Boxed W w.heap.size 9 (.string p) ∧ ¬ T w.heap.size)
    (fun _ _ _ _ => False) HI.out (fun _ _ _ h => h.2.2.1) (fun _ _ _ _ _ _ hs _ _ => hs)
    ⟨⟨[], rfl, ⟨⟨_, HBO.out, RowG.nil _ _ _, by simp [Value.ownBlock]⟩, by omega, fun k hk => by rcases hk with rfl | rfl <;> omega, HS.out⟩, HB4.out.size⟩, HB4.out, HBP.out, by omega⟩
    (fun x vs a' => ∀ A3 m3 c3, vs = #[.string x.1.str, .slice A3 m3 c3] → a' = { tmps := #[.string p, .slice A n c, .pointer (some ⟨w.heap.size, 0, none⟩), undef, .slice none 0 0, clo w.heap.size, .pointer (some ⟨w.heap.size + 1, 0, none⟩), .string x.1.str, .slice A3 m3 c3, clo w.heap.size, .slice A n c, clo w.heap.size, .func (.func 56) #[] #[.pointer (some ⟨w.heap.size + 2, 0, none⟩), .pointer (some ⟨w.heap.size + 3, 0, none⟩)], .string x.1.str, .slice A3 m3 c3, undef, undef, undef, undef, undef, undef, undef, undef, undef, undef, undef, undef, undef, undef, undef], defers := [] })
    ?assign ?body ?done ?stop
  case assign =>
    rintro l pre T U x vs W K hi ⟨hU, A3, m3, c3, rfl, hr3⟩ hTl _ _ hK
    have HK := Lib.hid hK
    have Hi := Lib.hid hi
    clear hK hi
    gi_wp2
    exact HK.out _ _ (KeepsT.refl _ W) (Below.refl _ W) Hi.out (fun A' m' c' h => by simp at h; obtain ⟨rfl, rfl, rfl⟩ := h; rfl)
  case body =>
    rintro l pre T U ⟨s, run⟩ vs a' W ⟨⟨zs, hz, hC, hnW⟩, hB, hbp, hnT⟩ ⟨hU, A3, m3, c3, rfl, hr3⟩ hdis hTl hax hpre hn0
    have ha := hax A3 m3 c3 rfl
    subst ha
    have hlow : ∀ k, T k → w.heap.size ≤ k := fun k h => hC.low k (.inl h)
    have hUB : ∀ k, U k → k ≠ w.heap.size + 1 := fun k h e => by subst e; exact hC.notB (.inr h)
    obtain ⟨v, hv, hng, hCS⟩ := CollS.start hC (fun j hj => hTl j (.inl hj)) hn0 (Nat.le_succ _)
    obtain ⟨Av, cv, rfl, -, -⟩ := own_slice hCS.row.own
    obtain ⟨zs3, hz3e, hz3⟩ := hr3.z
    have hzm := hz3.len
    subst hzm
    have hmem : (s, run) ∈ runsBy (byP p) ts := hpre.mem (by simp)
    have hra := runsBy_all (byP p) ts _ hmem
    have hgood : ∀ t ∈ run, Good t := fun t ht => HG.out t (by rw [← runsBy_flat (byP p) ts]; exact List.mem_flatMap.2 ⟨_, hmem, ht⟩)
    have hpl := pre_len hpre
    have hol := outOf_len (kd p) pre fun q hq => (runsBy_all (byP p) ts q (hpre.mem (List.mem_append_left _ hq))).1
    have hrl : 1 ≤ run.length := by
      have := hra.1
      cases run with
      | nil => exact absurd rfl this
      | cons => simp
    rw [List.flatMap_append, List.length_append] at hpl
    simp only [List.flatMap_cons, List.flatMap_nil, List.append_nil] at hpl
    rw [← hz, vz_len] at hol
    have hrl3 : run.length = zs3.length := by have := congrArg List.length hz3e; rw [vz_len] at this; exact this.symm
    have htl := HTL.out
    have hlen : zs.length + zs3.length ≤ 900000 := by omega
    have hm3 : zs3.length ≤ 900000 := by omega
    have hsub : ∀ b, b < W.heap.size → (S b ∨ U b) → Ft w.heap.size S T (w.heap.size + 1) b ∧ (Value.slice Av zs.length cv).ownBlock ≠ some b := fun b _ h => by
      rcases h with h | h
      · exact ⟨.inl h, fun e => by have := (hCS.row.low b e).1; have := HS.out b h; omega⟩
      · exact ⟨.inr ⟨hU b h, hdis b h, hUB b h⟩, fun e => hng b e (.inr h)⟩
    have hc := hv.cell
    have hcp := hbp.cell
    have HZ := Lib.hid hz
    have HCS := Lib.hid hCS
    have HZ3 := Lib.hid hz3
    have HZE := Lib.hid hz3e
    have HGR := Lib.hid hgood
    have HRA := Lib.hid hra
    have HLEN := Lib.hid hlen
    have HSUB := Lib.hid hsub
    have HSN : Hid (∀ b, Sn W.heap.size (fun b => S b ∨ U b) b → Ft w.heap.size S T (w.heap.size + 1) b ∧ (Value.slice Av zs.length cv).ownBlock ≠ some b) := Lib.hid fun b h => by
      have hbo := hv.lt
      have hTW : ∀ k, T k → k < W.heap.size := fun k h => hTl k (.inl h)
      rcases h with h | h
      · rcases h with h | h
        · exact ⟨.inl h, fun e => by have := (hCS.row.low b e).1; have := HS.out b h; omega⟩
        · exact ⟨.inr ⟨hU b h, hdis b h, hUB b h⟩, fun e => hng b e (.inr h)⟩
      · exact ⟨.inr ⟨Nat.le_trans hn0 h, fun e => by have := hTW b e; omega, by omega⟩, fun e => by have := (hCS.row.low b e).2; omega⟩
    have HB := Lib.hid hB
    have HBQ := Lib.hid hbp
    have HNT := Lib.hid hnT
    have HLOW := Lib.hid hlow
    have HN0 := Lib.hid hn0
    have HR3 := Lib.hid hr3
    have HUL : Hid (∀ b, (S b ∨ U b) → b < W.heap.size) := Lib.hid fun b h => h.elim (fun h => Nat.lt_of_lt_of_le (HS.out b h) hn0) (fun h => hTl b (.inr h))
    clear hz hC hnW hB hbp hnT hU hr3 hdis hTl hax hlow hUB hv hng hCS hz3e hz3 hmem hra hgood hpl hol hrl hrl3 htl hlen hsub
    by_cases hst : s = .stay
    · subst hst
      have hq : (Srt.stay.str.toList == []) = true := by rw [ByteArray.toList_eq]; rfl
      simp only at hq ⊢
      generalize Srt.stay.str = st at *
      gi_wp2_with (gi_at_builtin; refine wpListIn_app W rfl (.tmp 17) (.tmp 18) 29 rfl w.heap.size 31 zNode 6 104 Try.underlying29 info31 rfl (by decide) (.slice Av zs.length cv) zs.length (cz zs) rfl HCS.out.row.own W.heap.size A3 zs3.length c3 (cz zs3) rfl HZ3.out.row.bare (nd_one HZ3.out.all) ?b1 ?b2 HN0.out ?_)
      case b1 => have := HLEN.out; unfold maxLen; omega
      case b2 => have := HLEN.out; omega
      intro A' c' w1 h1 h2 h3
      have C1 := HCS.out.app (fun z hz => (HZ3.out.all z hz).stay (.weaken W HSUB.out)) h1 h2 h3
      obtain ⟨d1, d2, d3, d4⟩ := C1.done HLOW.out
      have hc1 := C1.box.cell
      have hf1 := C1.box.frozen
      have HC1 := Lib.hid C1
      have HD1 := Lib.hid d1
      have HD2 := Lib.hid d2
      have HD3 := Lib.hid d3
      have HD4 := Lib.hid d4
      clear h1 h2 h3 C1 d1 d2 d3 d4
      gi_wp2_with fail
      refine ⟨HD1.out, HD2.out, ⟨zs ++ zs3, ?_, HD3.out, Nat.le_trans HN0.out HD2.out.size⟩, HB.out.trans HD2.out, ?_, fun h => HNT.out (.inl h)⟩
      · rw [vz_append, HZ.out, HZE.out, outOf_snoc, wrapT_stay]
      · exact (HD4.out _ HBQ.out.lt (by omega) (fun e => HBQ.out.not_row (by decide) HCS.out.row.own e.symm)).trans HBQ.out
    · have hq : (s.str.toList == []) = false := by
        rw [ByteArray.toList_eq]
        cases s <;> first | rfl | exact absurd rfl hst
      have HW2 := Lib.hid (HW.out)
      generalize hstr : s.str = st at *
      gi_wp2_with fail
      refine region_toRound (by kernel_rfl) (block_out post_out) (by kernel_rfl) ?_
      refine wpAny_of_late (S := fun w' => w'.cell? ⟨w.heap.size + 1, 0, none⟩ = some (.slice Av zs.length cv) ∧ w'.cell? ⟨w.heap.size, 0, none⟩ = some (.string p)) (late := fun i => decide (7 ≤ i)) _ _ _ _ ?_
      change wpAnyP _ _ _ _ _ _ _ _ _ W.drew
      have HSW : (fun w' : World => w'.cell? ⟨w.heap.size + 1, 0, none⟩ = some (.slice Av zs.length cv) ∧ w'.cell? ⟨w.heap.size, 0, none⟩ = some (.string p)) W.drew := ⟨hc, hcp⟩
      refine late_take (i := 0) (v := .slice Av zs.length cv) rfl (by kernel_rfl) (by kernel_rfl) (by kernel_rfl) (by kernel_rfl) (by kernel_rfl) (fun _ _ _ h => h) rfl (fun _ hS => by obtain ⟨e1, e2⟩ := hS; go_simp) HSW ?_
      simp only [Act.put, List.setIfInBounds_toArray, List.set_cons_succ, List.set_cons_zero, List.getElem_toArray, List.getElem_cons_succ, List.getElem_cons_zero]
      refine late_take (i := 1) (v := .string p) rfl (by kernel_rfl) (by kernel_rfl) (by kernel_rfl) (by kernel_rfl) (by kernel_rfl) (fun _ _ _ h => h) rfl (fun _ hS => by obtain ⟨e1, e2⟩ := hS; go_simp) HSW ?_
      simp only [Act.put, List.setIfInBounds_toArray, List.set_cons_succ, List.set_cons_zero, List.getElem_toArray, List.getElem_cons_succ, List.getElem_cons_zero]
      refine late_take (i := 2) (v := .string st) rfl (by kernel_rfl) (by kernel_rfl) (by kernel_rfl) (by kernel_rfl) (by kernel_rfl) (fun _ _ _ h => h) rfl (fun _ hS => by obtain ⟨e1, e2⟩ := hS; go_simp) HSW ?_
      simp only [Act.put, List.setIfInBounds_toArray, List.set_cons_succ, List.set_cons_zero, List.getElem_toArray, List.getElem_cons_succ, List.getElem_cons_zero]
      refine late_take (i := 3) (v := .slice A3 zs3.length c3) rfl (by kernel_rfl) (by kernel_rfl) (by kernel_rfl) (by kernel_rfl) (by kernel_rfl) (fun _ _ _ h => h) rfl (fun _ hS => by obtain ⟨e1, e2⟩ := hS; go_simp) HSW ?_
      simp only [Act.put, List.setIfInBounds_toArray, List.set_cons_succ, List.set_cons_zero, List.getElem_toArray, List.getElem_cons_succ, List.getElem_cons_zero]
      refine late_take (i := 5) (v := .int .i64 (zs.length : Int)) rfl (by kernel_rfl) (by kernel_rfl) (by kernel_rfl) (by kernel_rfl) (by kernel_rfl) (fun _ _ _ h => h) rfl (fun _ hS => by obtain ⟨e1, e2⟩ := hS; go_simp) HSW ?_
      simp only [Act.put, List.setIfInBounds_toArray, List.set_cons_succ, List.set_cons_zero, List.getElem_toArray, List.getElem_cons_succ, List.getElem_cons_zero]
      obtain ⟨t, htt, hcA⟩ := HW.out W.drew (fun b => S b ∨ U b) s A3 zs3.length c3 run hst HRA.out.1 HGR.out hm3 HUL.out (HR3.out.stay (.below (Below.refl _ _).drew fun _ _ h => h))
      obtain ⟨t2, htt2, hcB⟩ := HW.out (W.drew.alloc (.cells #[.int .i64 0, .int .i64 0, .string ⟨#[]⟩, .slice none 0 0, .slice none 0 0, .slice none 0 0] 31)) (fun b => S b ∨ U b) s A3 zs3.length c3 run hst HRA.out.1 HGR.out hm3 (fun b h => by have := HUL.out b h; rw [World.size_alloc]; exact Nat.lt_succ_of_lt this) (HR3.out.stay (.below ((Below.refl W.heap.size W).drew.alloc (Nat.le_refl _) _) fun _ _ h => h))
      obtain rfl : t = t2 := by rw [htt] at htt2; simpa using htt2
      simp only [hstr] at hcA hcB
      have HTT := Lib.hid htt
      have HCA := Lib.hid hcA
      have HCB := Lib.hid hcB
      have hk0 : (0 : Int) ≤ (zs.length : Int) := by omega
      have hk1 : (zs.length : Int) < (zs.length + 1 : Int) := by omega
      clear htt htt2 hcA hcB
      refine late_two (i := 4) (j := 6) (by kernel_rfl) rfl rfl rfl rfl ?_ ?_
      · refine wp_call rfl (enters_of Try.func50 (by kernel_rfl) rfl) [.string p, .string st, .slice A3 zs3.length c3] rfl HCA.out ?_
        rintro e w1 ⟨u, rfl, hu, hB1⟩
        obtain ⟨u0, u1, u2, u3, u3n, u3c, u4, u4n, u4c, u5, u5n, u5c, ua, ut, uk, hue, -⟩ := hu.parts
        have hue2 : u = #[.int .i64 u0, .int .i64 u1, .string u2, .slice u3 u3n u3c, .slice u4 u4n u4c, .slice u5 u5n u5c] := by rw [← Array.toArray_toList (xs := u), hue]
        subst hue2
        clear hue
        have hB1' : Below W.heap.size W w1 := (Below.refl _ _).drew.trans hB1
        have C1 := HCS.out.next hB1'
        have hq1 := (hB1'.block _ HBQ.out.lt).trans HBQ.out
        have HSW1 : (fun w' : World => w'.cell? ⟨w.heap.size + 1, 0, none⟩ = some (.slice Av zs.length cv) ∧ w'.cell? ⟨w.heap.size, 0, none⟩ = some (.string p)) w1 := ⟨C1.box.cell, (show Boxed w1 w.heap.size 9 (.string p) from hq1).cell⟩
        refine ⟨_, rfl, fun _ => HSW1, ?_⟩
        simp only [Act.put, List.setIfInBounds_toArray, List.set_cons_succ, List.set_cons_zero, List.getElem_toArray, List.getElem_cons_succ, List.getElem_cons_zero]
        refine late_one (i := 6) (by kernel_rfl) rfl rfl ?_
        simp only [Act.put, List.setIfInBounds_toArray, List.set_cons_succ, List.set_cons_zero, List.getElem_toArray, List.getElem_cons_succ, List.getElem_cons_zero]
        go_simp
        have C6 := C1.next (blAl (.cells #[.int .i64 0, .int .i64 0, .string ⟨#[]⟩, .slice none 0 0, .slice none 0 0, .slice none 0 0] 31))
        have X6 := BoxN.made w1 #[.int .i64 0, .int .i64 0, .string ⟨#[]⟩, .slice none 0 0, .slice none 0 0, .slice none 0 0] 31
        have U6 := hu.stay (.below (blAl (.cells #[.int .i64 0, .int .i64 0, .string ⟨#[]⟩, .slice none 0 0, .slice none 0 0, .slice none 0 0] 31)) fun _ _ h => h)
        have HUF : Hid (∀ b, b < (w1.alloc (.cells #[.int .i64 0, .int .i64 0, .string ⟨#[]⟩, .slice none 0 0, .slice none 0 0, .slice none 0 0] 31)).heap.size → Sn W.drew.heap.size (fun b => S b ∨ U b) b → Ft w.heap.size S T (w.heap.size + 1) b ∧ (Value.slice Av zs.length cv).ownBlock ≠ some b) := Lib.hid fun b _ h => HSN.out b h
        have HSW6 : (fun w' : World => w'.cell? ⟨w.heap.size + 1, 0, none⟩ = some (.slice Av zs.length cv) ∧ w'.cell? ⟨w.heap.size, 0, none⟩ = some (.string p)) (w1.alloc (.cells #[.int .i64 0, .int .i64 0, .string ⟨#[]⟩, .slice none 0 0, .slice none 0 0, .slice none 0 0] 31)) := ⟨C6.box.cell, (show Boxed w1 w.heap.size 9 (.string p) from hq1).alloc _ |>.cell⟩
        refine ⟨HSW6, ?_⟩
        generalize (w1.alloc (.cells #[.int .i64 0, .int .i64 0, .string ⟨#[]⟩, .slice none 0 0, .slice none 0 0, .slice none 0 0] 31)) = w6 at *
        generalize w1.heap.size = g6 at *
        have HC6 := Lib.hid C6
        have HX6 := Lib.hid X6
        have HU6 := Lib.hid U6
        clear C6 X6 U6 C1 hq1 HSW1 hB1 hB1' hu HSW6 HSW hc hcp
        have R6 := HX6.out.rd6 rfl
        have hrt : ∀ x ∈ (#[.int .i64 0, .int .i64 0, .string ⟨#[]⟩, .slice none 0 0, .slice none 0 0, .slice none 0 0] : Array Value).toList, x.oneCell' = true := by decide
        refine late_one (i := 7) (by kernel_rfl) rfl rfl (wp_app (.tmp 20) (.tmp 26) 29 rfl w.heap.size 31 zNode 6 104 Try.underlying29 info31 rfl (by decide) (.slice Av zs.length cv) zs.length (cz zs) rfl HC6.out.row.own (g6 + 1) (some ⟨g6, 0, none⟩) 1 1 (#[.int .i64 0, .int .i64 0, .string ⟨#[]⟩, .slice none 0 0, .slice none 0 0, .slice none 0 0] : Array Value).toList rfl R6 hrt (by have := HLEN.out; unfold maxLen; omega) (by have := HLEN.out; omega) (Nat.le_trans HC6.out.base HC6.out.below.size) ?_)
        intro A7 c7 w7 h1 h2 h3
        have C7 := HC6.out.app (zs' := [⟨((#[.int .i64 0, .int .i64 0, .string ⟨#[]⟩, .slice none 0 0, .slice none 0 0, .slice none 0 0] : Array Value).toList, mk sNone []), rfl⟩]) (fun z hz => by
          obtain rfl : z = ⟨((#[.int .i64 0, .int .i64 0, .string ⟨#[]⟩, .slice none 0 0, .slice none 0 0, .slice none 0 0] : Array Value).toList, mk sNone []), rfl⟩ := by simpa using hz
          exact NdF.made sNone (RdF.nil _ _)) h1 h2 h3
        have HC7 := Lib.hid C7
        have U7 : NdF w7 (fun b => Ft w.heap.size S T (w.heap.size + 1) b ∧ (Value.slice A7 (zs.length + 1) c7).ownBlock ≠ some b) ([.int .i64 u0, .int .i64 u1, .string u2, .slice u3 u3n u3c, .slice u4 u4n u4c, .slice u5 u5n u5c] : List Value) t := HU6.out.stay ⟨h2.size, fun b hb hs => ⟨(HUF.out b hb hs).1, fun e => by
          rcases h3 b e with h4 | h4
          · exact (HUF.out b hb hs).2 h4
          · omega⟩, fun b hb hs => h2.block b hb fun e => (HUF.out b hb hs).2 e.symm⟩
        have hq7 : Boxed w7 w.heap.size 9 (.string p) := (C7.rest _ HBQ.out.lt (by omega) (fun e => HBQ.out.not_row (by decide) HCS.out.row.own e.symm)).trans HBQ.out
        have HSW7 : (fun w' : World => w'.cell? ⟨w.heap.size + 1, 0, none⟩ = some (.slice Av zs.length cv) ∧ w'.cell? ⟨w.heap.size, 0, none⟩ = some (.string p)) w7 := ⟨C7.box.cell, hq7.cell⟩
        refine ⟨fun _ => HSW7, ?_⟩
        simp only [Act.put, List.setIfInBounds_toArray, List.set_cons_succ, List.set_cons_zero, List.getElem_toArray, List.getElem_cons_succ, List.getElem_cons_zero]
        obtain ⟨g7, rfl, -⟩ := own_addr h1 (by omega)
        have HU7 := Lib.hid U7
        have hcat : ∀ jj vv, (#[.int .i64 0, .int .i64 0, .string ⟨#[]⟩, .slice none 0 0, .slice none 0 0, .slice none 0 0] : Array Value).toList[jj]? = some vv → w7.cell? ⟨g7, zs.length * 6 + jj, none⟩ = some vv := fun jj vv hj => by
          have hj6 : jj < 6 := (List.getElem?_eq_some_iff.1 hj).1
          rw [h1.cellAt (zs.length * 6 + jj) (by omega), List.getElem?_append_right (by rw [cz_len]; omega), cz_len, Nat.add_sub_cancel_left]
          exact hj
        have k0 := hcat 0 _ rfl
        have k1 := hcat 1 _ rfl
        have k2 := hcat 2 _ rfl
        have k3 := hcat 3 _ rfl
        have k4 := hcat 4 _ rfl
        have k5 := hcat 5 _ rfl
        rw [Nat.add_zero] at k0
        have f7 := fun jj => h1.frozenAt jj
        have hbo := C7.box.cell
        have hfo := C7.box.frozen
        have hno1 := C7.box.not_row (by decide) C7.row.own
        have hno2 := hq7.not_row (by decide) C7.row.own
        have hne : ¬ g7 = w.heap.size + 1 := fun e => hno1 (by rw [e]; rfl)
        have hne2 : ¬ g7 = w.heap.size := fun e => hno2 (by rw [e]; rfl)
        have hbp7 := hq7.cell
        clear h1 h2 h3 C7 U7 hcat R6 hrt hq7 hno1 hno2
        refine late_two (i := 8) (j := 10) (by kernel_rfl) rfl rfl rfl rfl ?_ ?_
        · simp only [Act.put, List.setIfInBounds_toArray, List.set_cons_succ, List.set_cons_zero, List.getElem_toArray, List.getElem_cons_succ, List.getElem_cons_zero]
          go_simp
          refine late_two (i := 9) (j := 10) (by kernel_rfl) rfl rfl rfl rfl ?_ ?_
          · simp only [Act.put, List.setIfInBounds_toArray, List.set_cons_succ, List.set_cons_zero, List.getElem_toArray, List.getElem_cons_succ, List.getElem_cons_zero]
            go_simp
            have C8 := HC7.out.store6 rfl HU7.out
            have hbo8 := C8.box.cell
            have hfo8 := C8.box.frozen
            obtain ⟨d1, d2, d3, d4⟩ := C8.done HLOW.out
            have HD1 := Lib.hid d1
            have HD2 := Lib.hid d2
            have HD3 := Lib.hid d3
            have HD4 := Lib.hid d4
            clear d1 d2 d3 d4 C8
            change wpAnyP _ _ _ _ _ _ _ _ _ (six w7 g7 (zs.length * 6) (.int .i64 u0) (.int .i64 u1) (.string u2) (.slice u3 u3n u3c) (.slice u4 u4n u4c) (.slice u5 u5n u5c))
            generalize (six w7 g7 (zs.length * 6) (.int .i64 u0) (.int .i64 u1) (.string u2) (.slice u3 u3n u3c) (.slice u4 u4n u4c) (.slice u5 u5n u5c)) = w8 at *
            refine late_one (i := 10) (by kernel_rfl) rfl rfl ?_
            simp only [Act.put, List.setIfInBounds_toArray, List.set_cons_succ, List.set_cons_zero, List.getElem_toArray, List.getElem_cons_succ, List.getElem_cons_zero]
            go_simp
            refine late_done (by kernel_rfl) ?_ _
            refine ⟨HD1.out, HD2.out, ⟨_, ?_, HD3.out, Nat.le_trans HN0.out HD2.out.size⟩, HB.out.trans HD2.out, ?_, fun h => HNT.out (.inl h)⟩
            · rw [vz_append, HZ.out, outOf_snoc, HTT.out]; rfl
            · exact (HD4.out _ HBQ.out.lt (by omega) (fun e => HBQ.out.not_row (by decide) HCS.out.row.own e.symm)).trans HBQ.out
          · simp only [Act.put, List.setIfInBounds_toArray, List.set_cons_succ, List.set_cons_zero, List.getElem_toArray, List.getElem_cons_succ, List.getElem_cons_zero]
            go_simp
            refine late_one (i := 9) (by kernel_rfl) rfl rfl ?_
            simp only [Act.put, List.setIfInBounds_toArray, List.set_cons_succ, List.set_cons_zero, List.getElem_toArray, List.getElem_cons_succ, List.getElem_cons_zero]
            go_simp
            have C8 := HC7.out.store6 rfl HU7.out
            have hbo8 := C8.box.cell
            have hfo8 := C8.box.frozen
            obtain ⟨d1, d2, d3, d4⟩ := C8.done HLOW.out
            have HD1 := Lib.hid d1
            have HD2 := Lib.hid d2
            have HD3 := Lib.hid d3
            have HD4 := Lib.hid d4
            clear d1 d2 d3 d4 C8
            refine late_done (by kernel_rfl) ?_ _
            change Exit.inBlock 1 _ .normal _ (six (w7.setCell ⟨w.heap.size + 1, 0, none⟩ (.slice (some ⟨g7, 0, none⟩) (zs.length + 1) c7)) g7 (zs.length * 6) (.int .i64 u0) (.int .i64 u1) (.string u2) (.slice u3 u3n u3c) (.slice u4 u4n u4c) (.slice u5 u5n u5c))
            rw [six_comm (by exact fun e => hne e.symm)]
            generalize (six w7 g7 (zs.length * 6) (.int .i64 u0) (.int .i64 u1) (.string u2) (.slice u3 u3n u3c) (.slice u4 u4n u4c) (.slice u5 u5n u5c)) = w8 at *
            refine ⟨HD1.out, HD2.out, ⟨_, ?_, HD3.out, Nat.le_trans HN0.out HD2.out.size⟩, HB.out.trans HD2.out, ?_, fun h => HNT.out (.inl h)⟩
            · rw [vz_append, HZ.out, outOf_snoc, HTT.out]; rfl
            · exact (HD4.out _ HBQ.out.lt (by omega) (fun e => HBQ.out.not_row (by decide) HCS.out.row.own e.symm)).trans HBQ.out
        · simp only [Act.put, List.setIfInBounds_toArray, List.set_cons_succ, List.set_cons_zero, List.getElem_toArray, List.getElem_cons_succ, List.getElem_cons_zero]
          go_simp
          refine late_one (i := 8) (by kernel_rfl) rfl rfl ?_
          simp only [Act.put, List.setIfInBounds_toArray, List.set_cons_succ, List.set_cons_zero, List.getElem_toArray, List.getElem_cons_succ, List.getElem_cons_zero]
          go_simp
          refine late_one (i := 9) (by kernel_rfl) rfl rfl ?_
          simp only [Act.put, List.setIfInBounds_toArray, List.set_cons_succ, List.set_cons_zero, List.getElem_toArray, List.getElem_cons_succ, List.getElem_cons_zero]
          go_simp
          have C8 := HC7.out.store6 rfl HU7.out
          have hbo8 := C8.box.cell
          have hfo8 := C8.box.frozen
          obtain ⟨d1, d2, d3, d4⟩ := C8.done HLOW.out
          have HD1 := Lib.hid d1
          have HD2 := Lib.hid d2
          have HD3 := Lib.hid d3
          have HD4 := Lib.hid d4
          clear d1 d2 d3 d4 C8
          refine late_done (by kernel_rfl) ?_ _
          change Exit.inBlock 1 _ .normal _ (six (w7.setCell ⟨w.heap.size + 1, 0, none⟩ (.slice (some ⟨g7, 0, none⟩) (zs.length + 1) c7)) g7 (zs.length * 6) (.int .i64 u0) (.int .i64 u1) (.string u2) (.slice u3 u3n u3c) (.slice u4 u4n u4c) (.slice u5 u5n u5c))
          rw [six_comm (by exact fun e => hne e.symm)]
          generalize (six w7 g7 (zs.length * 6) (.int .i64 u0) (.int .i64 u1) (.string u2) (.slice u3 u3n u3c) (.slice u4 u4n u4c) (.slice u5 u5n u5c)) = w8 at *
          refine ⟨HD1.out, HD2.out, ⟨_, ?_, HD3.out, Nat.le_trans HN0.out HD2.out.size⟩, HB.out.trans HD2.out, ?_, fun h => HNT.out (.inl h)⟩
          · rw [vz_append, HZ.out, outOf_snoc, HTT.out]; rfl
          · exact (HD4.out _ HBQ.out.lt (by omega) (fun e => HBQ.out.not_row (by decide) HCS.out.row.own e.symm)).trans HBQ.out
      · simp only [Act.put, List.setIfInBounds_toArray, List.set_cons_succ, List.set_cons_zero, List.getElem_toArray, List.getElem_cons_succ, List.getElem_cons_zero]
        go_simp
        change _ ∧ wpAnyP _ _ _ _ _ _ _ _ _ (W.drew.alloc (.cells #[.int .i64 0, .int .i64 0, .string ⟨#[]⟩, .slice none 0 0, .slice none 0 0, .slice none 0 0] 31))
        have hB5 : Below W.heap.size W (W.drew.alloc (.cells #[.int .i64 0, .int .i64 0, .string ⟨#[]⟩, .slice none 0 0, .slice none 0 0, .slice none 0 0] 31)) := (Below.refl _ _).drew.alloc (Nat.le_refl _) _
        have C5 := HCS.out.next hB5
        have hq5 := (hB5.block _ HBQ.out.lt).trans HBQ.out
        have HSW5 : (fun w' : World => w'.cell? ⟨w.heap.size + 1, 0, none⟩ = some (.slice Av zs.length cv) ∧ w'.cell? ⟨w.heap.size, 0, none⟩ = some (.string p)) (W.drew.alloc (.cells #[.int .i64 0, .int .i64 0, .string ⟨#[]⟩, .slice none 0 0, .slice none 0 0, .slice none 0 0] 31)) := ⟨C5.box.cell, (show Boxed (W.drew.alloc (.cells #[.int .i64 0, .int .i64 0, .string ⟨#[]⟩, .slice none 0 0, .slice none 0 0, .slice none 0 0] 31)) w.heap.size 9 (.string p) from hq5).cell⟩
        have X5 : BoxN (W.drew.alloc (.cells #[.int .i64 0, .int .i64 0, .string ⟨#[]⟩, .slice none 0 0, .slice none 0 0, .slice none 0 0] 31)) W.heap.size #[.int .i64 0, .int .i64 0, .string ⟨#[]⟩, .slice none 0 0, .slice none 0 0, .slice none 0 0] 31 := BoxN.made W.drew _ _
        refine ⟨HSW5, ?_⟩
        refine late_one (i := 4) (by kernel_rfl) rfl rfl (wp_call rfl (enters_of Try.func50 (by kernel_rfl) rfl) [.string p, .string st, .slice A3 zs3.length c3] rfl HCB.out ?_)
        rintro e w6 ⟨u, rfl, hu, hB6⟩
        obtain ⟨u0, u1, u2, u3, u3n, u3c, u4, u4n, u4c, u5, u5n, u5c, ua, ut, uk, hue, -⟩ := hu.parts
        have hue2 : u = #[.int .i64 u0, .int .i64 u1, .string u2, .slice u3 u3n u3c, .slice u4 u4n u4c, .slice u5 u5n u5c] := by rw [← Array.toArray_toList (xs := u), hue]
        subst hue2
        clear hue
        have C6 := C5.next hB6
        have X6 := X5.below hB6 X5.lt
        have HUF : Hid (∀ b, b < w6.heap.size → Sn (W.drew.alloc (.cells #[.int .i64 0, .int .i64 0, .string ⟨#[]⟩, .slice none 0 0, .slice none 0 0, .slice none 0 0] 31)).heap.size (fun b => S b ∨ U b) b → Ft w.heap.size S T (w.heap.size + 1) b ∧ (Value.slice Av zs.length cv).ownBlock ≠ some b) := Lib.hid fun b _ h => HSN.out b (h.imp id fun h => by rw [World.size_alloc] at h; exact Nat.le_trans (Nat.le_succ _) h)
        have HSW6 : (fun w' : World => w'.cell? ⟨w.heap.size + 1, 0, none⟩ = some (.slice Av zs.length cv) ∧ w'.cell? ⟨w.heap.size, 0, none⟩ = some (.string p)) w6 := ⟨C6.box.cell, (show Boxed w6 w.heap.size 9 (.string p) from (hB6.block _ (show Boxed _ w.heap.size 9 (.string p) from hq5).lt).trans hq5).cell⟩
        refine ⟨_, rfl, fun _ => HSW6, ?_⟩
        simp only [Act.put, List.setIfInBounds_toArray, List.set_cons_succ, List.set_cons_zero, List.getElem_toArray, List.getElem_cons_succ, List.getElem_cons_zero]
        have HC6 := Lib.hid C6
        have HX6 := Lib.hid X6
        have HU6 := Lib.hid hu
        clear C6 X6 X5 C5 hq5 HSW5 hB5 hB6 hu HSW6 HSW hc hcp
        have R6 := HX6.out.rd6 rfl
        have hrt : ∀ x ∈ (#[.int .i64 0, .int .i64 0, .string ⟨#[]⟩, .slice none 0 0, .slice none 0 0, .slice none 0 0] : Array Value).toList, x.oneCell' = true := by decide
        refine late_one (i := 7) (by kernel_rfl) rfl rfl (wp_app (.tmp 20) (.tmp 26) 29 rfl w.heap.size 31 zNode 6 104 Try.underlying29 info31 rfl (by decide) (.slice Av zs.length cv) zs.length (cz zs) rfl HC6.out.row.own (W.heap.size + 1) (some ⟨W.heap.size, 0, none⟩) 1 1 (#[.int .i64 0, .int .i64 0, .string ⟨#[]⟩, .slice none 0 0, .slice none 0 0, .slice none 0 0] : Array Value).toList rfl R6 hrt (by have := HLEN.out; unfold maxLen; omega) (by have := HLEN.out; omega) (Nat.le_trans HC6.out.base HC6.out.below.size) ?_)
        intro A7 c7 w7 h1 h2 h3
        have C7 := HC6.out.app (zs' := [⟨((#[.int .i64 0, .int .i64 0, .string ⟨#[]⟩, .slice none 0 0, .slice none 0 0, .slice none 0 0] : Array Value).toList, mk sNone []), rfl⟩]) (fun z hz => by
          obtain rfl : z = ⟨((#[.int .i64 0, .int .i64 0, .string ⟨#[]⟩, .slice none 0 0, .slice none 0 0, .slice none 0 0] : Array Value).toList, mk sNone []), rfl⟩ := by simpa using hz
          exact NdF.made sNone (RdF.nil _ _)) h1 h2 h3
        have HC7 := Lib.hid C7
        have U7 : NdF w7 (fun b => Ft w.heap.size S T (w.heap.size + 1) b ∧ (Value.slice A7 (zs.length + 1) c7).ownBlock ≠ some b) ([.int .i64 u0, .int .i64 u1, .string u2, .slice u3 u3n u3c, .slice u4 u4n u4c, .slice u5 u5n u5c] : List Value) t := HU6.out.stay ⟨h2.size, fun b hb hs => ⟨(HUF.out b hb hs).1, fun e => by
          rcases h3 b e with h4 | h4
          · exact (HUF.out b hb hs).2 h4
          · omega⟩, fun b hb hs => h2.block b hb fun e => (HUF.out b hb hs).2 e.symm⟩
        have hq7 : Boxed w7 w.heap.size 9 (.string p) := (C7.rest _ HBQ.out.lt (by omega) (fun e => HBQ.out.not_row (by decide) HCS.out.row.own e.symm)).trans HBQ.out
        have HSW7 : (fun w' : World => w'.cell? ⟨w.heap.size + 1, 0, none⟩ = some (.slice Av zs.length cv) ∧ w'.cell? ⟨w.heap.size, 0, none⟩ = some (.string p)) w7 := ⟨C7.box.cell, hq7.cell⟩
        refine ⟨fun _ => HSW7, ?_⟩
        simp only [Act.put, List.setIfInBounds_toArray, List.set_cons_succ, List.set_cons_zero, List.getElem_toArray, List.getElem_cons_succ, List.getElem_cons_zero]
        obtain ⟨g7, rfl, -⟩ := own_addr h1 (by omega)
        have HU7 := Lib.hid U7
        have hcat : ∀ jj vv, (#[.int .i64 0, .int .i64 0, .string ⟨#[]⟩, .slice none 0 0, .slice none 0 0, .slice none 0 0] : Array Value).toList[jj]? = some vv → w7.cell? ⟨g7, zs.length * 6 + jj, none⟩ = some vv := fun jj vv hj => by
          have hj6 : jj < 6 := (List.getElem?_eq_some_iff.1 hj).1
          rw [h1.cellAt (zs.length * 6 + jj) (by omega), List.getElem?_append_right (by rw [cz_len]; omega), cz_len, Nat.add_sub_cancel_left]
          exact hj
        have k0 := hcat 0 _ rfl
        have k1 := hcat 1 _ rfl
        have k2 := hcat 2 _ rfl
        have k3 := hcat 3 _ rfl
        have k4 := hcat 4 _ rfl
        have k5 := hcat 5 _ rfl
        rw [Nat.add_zero] at k0
        have f7 := fun jj => h1.frozenAt jj
        have hbo := C7.box.cell
        have hfo := C7.box.frozen
        have hno1 := C7.box.not_row (by decide) C7.row.own
        have hno2 := hq7.not_row (by decide) C7.row.own
        have hne : ¬ g7 = w.heap.size + 1 := fun e => hno1 (by rw [e]; rfl)
        have hne2 : ¬ g7 = w.heap.size := fun e => hno2 (by rw [e]; rfl)
        have hbp7 := hq7.cell
        clear h1 h2 h3 C7 U7 hcat R6 hrt hq7 hno1 hno2
        refine late_two (i := 8) (j := 10) (by kernel_rfl) rfl rfl rfl rfl ?_ ?_
        · simp only [Act.put, List.setIfInBounds_toArray, List.set_cons_succ, List.set_cons_zero, List.getElem_toArray, List.getElem_cons_succ, List.getElem_cons_zero]
          go_simp
          refine late_two (i := 9) (j := 10) (by kernel_rfl) rfl rfl rfl rfl ?_ ?_
          · simp only [Act.put, List.setIfInBounds_toArray, List.set_cons_succ, List.set_cons_zero, List.getElem_toArray, List.getElem_cons_succ, List.getElem_cons_zero]
            go_simp
            have C8 := HC7.out.store6 rfl HU7.out
            have hbo8 := C8.box.cell
            have hfo8 := C8.box.frozen
            obtain ⟨d1, d2, d3, d4⟩ := C8.done HLOW.out
            have HD1 := Lib.hid d1
            have HD2 := Lib.hid d2
            have HD3 := Lib.hid d3
            have HD4 := Lib.hid d4
            clear d1 d2 d3 d4 C8
            change wpAnyP _ _ _ _ _ _ _ _ _ (six w7 g7 (zs.length * 6) (.int .i64 u0) (.int .i64 u1) (.string u2) (.slice u3 u3n u3c) (.slice u4 u4n u4c) (.slice u5 u5n u5c))
            generalize (six w7 g7 (zs.length * 6) (.int .i64 u0) (.int .i64 u1) (.string u2) (.slice u3 u3n u3c) (.slice u4 u4n u4c) (.slice u5 u5n u5c)) = w8 at *
            refine late_one (i := 10) (by kernel_rfl) rfl rfl ?_
            simp only [Act.put, List.setIfInBounds_toArray, List.set_cons_succ, List.set_cons_zero, List.getElem_toArray, List.getElem_cons_succ, List.getElem_cons_zero]
            go_simp
            refine late_done (by kernel_rfl) ?_ _
            refine ⟨HD1.out, HD2.out, ⟨_, ?_, HD3.out, Nat.le_trans HN0.out HD2.out.size⟩, HB.out.trans HD2.out, ?_, fun h => HNT.out (.inl h)⟩
            · rw [vz_append, HZ.out, outOf_snoc, HTT.out]; rfl
            · exact (HD4.out _ HBQ.out.lt (by omega) (fun e => HBQ.out.not_row (by decide) HCS.out.row.own e.symm)).trans HBQ.out
          · simp only [Act.put, List.setIfInBounds_toArray, List.set_cons_succ, List.set_cons_zero, List.getElem_toArray, List.getElem_cons_succ, List.getElem_cons_zero]
            go_simp
            refine late_one (i := 9) (by kernel_rfl) rfl rfl ?_
            simp only [Act.put, List.setIfInBounds_toArray, List.set_cons_succ, List.set_cons_zero, List.getElem_toArray, List.getElem_cons_succ, List.getElem_cons_zero]
            go_simp
            have C8 := HC7.out.store6 rfl HU7.out
            have hbo8 := C8.box.cell
            have hfo8 := C8.box.frozen
            obtain ⟨d1, d2, d3, d4⟩ := C8.done HLOW.out
            have HD1 := Lib.hid d1
            have HD2 := Lib.hid d2
            have HD3 := Lib.hid d3
            have HD4 := Lib.hid d4
            clear d1 d2 d3 d4 C8
            refine late_done (by kernel_rfl) ?_ _
            change Exit.inBlock 1 _ .normal _ (six (w7.setCell ⟨w.heap.size + 1, 0, none⟩ (.slice (some ⟨g7, 0, none⟩) (zs.length + 1) c7)) g7 (zs.length * 6) (.int .i64 u0) (.int .i64 u1) (.string u2) (.slice u3 u3n u3c) (.slice u4 u4n u4c) (.slice u5 u5n u5c))
            rw [six_comm (by exact fun e => hne e.symm)]
            generalize (six w7 g7 (zs.length * 6) (.int .i64 u0) (.int .i64 u1) (.string u2) (.slice u3 u3n u3c) (.slice u4 u4n u4c) (.slice u5 u5n u5c)) = w8 at *
            refine ⟨HD1.out, HD2.out, ⟨_, ?_, HD3.out, Nat.le_trans HN0.out HD2.out.size⟩, HB.out.trans HD2.out, ?_, fun h => HNT.out (.inl h)⟩
            · rw [vz_append, HZ.out, outOf_snoc, HTT.out]; rfl
            · exact (HD4.out _ HBQ.out.lt (by omega) (fun e => HBQ.out.not_row (by decide) HCS.out.row.own e.symm)).trans HBQ.out
        · simp only [Act.put, List.setIfInBounds_toArray, List.set_cons_succ, List.set_cons_zero, List.getElem_toArray, List.getElem_cons_succ, List.getElem_cons_zero]
          go_simp
          refine late_one (i := 8) (by kernel_rfl) rfl rfl ?_
          simp only [Act.put, List.setIfInBounds_toArray, List.set_cons_succ, List.set_cons_zero, List.getElem_toArray, List.getElem_cons_succ, List.getElem_cons_zero]
          go_simp
          refine late_one (i := 9) (by kernel_rfl) rfl rfl ?_
          simp only [Act.put, List.setIfInBounds_toArray, List.set_cons_succ, List.set_cons_zero, List.getElem_toArray, List.getElem_cons_succ, List.getElem_cons_zero]
          go_simp
          have C8 := HC7.out.store6 rfl HU7.out
          have hbo8 := C8.box.cell
          have hfo8 := C8.box.frozen
          obtain ⟨d1, d2, d3, d4⟩ := C8.done HLOW.out
          have HD1 := Lib.hid d1
          have HD2 := Lib.hid d2
          have HD3 := Lib.hid d3
          have HD4 := Lib.hid d4
          clear d1 d2 d3 d4 C8
          refine late_done (by kernel_rfl) ?_ _
          change Exit.inBlock 1 _ .normal _ (six (w7.setCell ⟨w.heap.size + 1, 0, none⟩ (.slice (some ⟨g7, 0, none⟩) (zs.length + 1) c7)) g7 (zs.length * 6) (.int .i64 u0) (.int .i64 u1) (.string u2) (.slice u3 u3n u3c) (.slice u4 u4n u4c) (.slice u5 u5n u5c))
          rw [six_comm (by exact fun e => hne e.symm)]
          generalize (six w7 g7 (zs.length * 6) (.int .i64 u0) (.int .i64 u1) (.string u2) (.slice u3 u3n u3c) (.slice u4 u4n u4c) (.slice u5 u5n u5c)) = w8 at *
          refine ⟨HD1.out, HD2.out, ⟨_, ?_, HD3.out, Nat.le_trans HN0.out HD2.out.size⟩, HB.out.trans HD2.out, ?_, fun h => HNT.out (.inl h)⟩
          · rw [vz_append, HZ.out, outOf_snoc, HTT.out]; rfl
          · exact (HD4.out _ HBQ.out.lt (by omega) (fun e => HBQ.out.not_row (by decide) HCS.out.row.own e.symm)).trans HBQ.out
  case done =>
    rintro D T W hD hTD ⟨⟨zs, hz, hC, hnW⟩, hB, hbp, hnT⟩ hK
    obtain ⟨⟨v, hv, hr, hg⟩, hnB, hlow, hlt⟩ := hC
    have hc := hv.cell
    gi_wp2
    refine ⟨by simp, .inl ⟨_, _, rfl, run_takeDeferred hK, ?_⟩⟩
    obtain ⟨Av, cv, rfl, _, _⟩ := own_slice hr.own
    have hDn : w.heap.size ≤ D := Nat.le_trans HB4.out.size hD
    refine ⟨_, results_tmp rfl _ _ _, ⟨Av, _, cv, rfl, ?_, hB.trans (belowK_b (w := w) (Nat.le_refl _) W D _ _ hDn hK rfl rfl)⟩⟩
    have hres : fitT (kd p) ts = vz zs := by rw [hz]; rfl
    rw [hres]
    have hrow : RowG (W.putObj D (.deferred none)) w.heap.size (Ft w.heap.size S T (w.heap.size + 1)) (.slice Av zs.length cv) zs := ⟨ownsRow_putObj hr.own _ hK rfl, fun z hz => (hr.all z hz).stay ⟨by simp [World.putObj], fun _ _ h => h, fun b hb h => World.putObj_heap_other fun e => by
      subst e
      rcases h.1 with h1 | h1
      · have := HS.out _ h1; omega
      · exact h1.2.1 hTD⟩⟩
    exact hrow.rd (fun b h => h.imp id fun h => h.1) (fun b h => .inr h)
  case stop =>
    rintro D c pre T W _ _ _ h _
    exact h.elim
end Go.Proofs.Ytcdhndhgainadaa
