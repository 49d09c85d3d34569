/-
  The walks of bytes.Clone and of summed.
-/
import Derived.Test.YtfbiobglckjilaaOwn
import Derived.Deep.RegionLaw
import Derived.Deep.RegionWith
import Derived.WalkSpells
namespace Go.Proofs.Ytfbiobglckjilaa
open Go Go.RowKit
set_option linter.unusedVariables false

/-- append onto a row of the call's own as one step of a region that draws its order. -/
theorem step_app {P : Program} (w : World) {ops : Array Oper} {o : Oper} {a : Act} {K : Act → World → Prop} {Q : Exit → Act → World → Prop} {E : Prop} (hgd : o.guard = none) (s x : Operand) (t : TypeId)
    (ho : o.op = .call { callee := .builtin .append, args := #[s, x], argTypes := #[t, t] })
    (W : World) (base : Nat) (e : TypeId) (z : Value) (size bytes : Nat) (ht : P.underlying t = some (.slice e)) (hinf : (P.info? e).map (fun i => (i.zero, i.size, i.bytes)) = some (some z, size, bytes))
    (hzs : z.cells.size = size) (hsz : 0 < size)
    (v : Value) (n : Nat) (xs : List Value) (hs : a.eval s = v) (hown : w.ownsRow base e size v n xs)
    (B : Nat) (A : Option Addr) (m c : Nat) (news : List Value) (hx : a.eval x = .slice A m c) (hr : Rd w B size A m news) (h1 : ∀ u ∈ news, u.oneCell' = true)
    (h63 : n + m ≤ maxLen) (hbytes : (n + m) * bytes ≤ 140737488355328) (hbel : Below base W w) (hbase : base ≤ W.heap.size)
    (h : ∀ A' c' w', w'.ownsRow base e size (.slice A' (n + m) c') (n + m) (xs ++ news) → w.grownBy w' v.ownBlock → Below base W w' → K (a.put o.dst (.slice A' (n + m) c')) w') :
    if Region.wanted o (yielded ops a.tmps) = true then Oper.wp P o a w K Q else E := by
  have hw : Region.wanted o (yielded ops a.tmps) = true := by simp [Region.wanted, hgd]
  rw [if_pos hw]
  have hb : base ≤ w.heap.size := Nat.le_trans hbase hbel.size
  obtain ⟨A', c', w', hrun, h2, h3⟩ := run_app (P := P) w base t o.type e z size bytes ht hinf hzs hsz v n xs hown B A m c news hr h1 h63 hbytes hb
  unfold Oper.wp execOp
  simp only [ho, resolve, invoke, builtin, Sem.run_bind, Sem.run_pure, Result.andThen_ok, List.map_toArray, List.map_cons, List.map_nil, hs, hx, hrun]
  exact h A' c' w' h2 h3 (hbel.grown h3 hb (fun k hk => (hown.lt k hk).1))

/-- WHAT A CALL MADE, its length said apart -/
def MadeN (n : Nat) (xs : List Nat) (w : World) (e : Ending) (w' : World) : Prop :=
  ∃ A c, e = .returned (.slice A n c) ∧ w'.ownsRow w.heap.size 5 1 (.slice A n c) n (by8 xs) ∧ Below w.heap.size w w'
theorem Made8.to {n : Nat} {xs : List Nat} {w : World} {e : Ending} {w' : World} (h : Made8 xs w e w') (hn : xs.length = n) : MadeN n xs w e w' := by subst hn; exact h

theorem Made8.of_nil (w : World) : Made8 [] w (.returned (.slice none 0 0)) w := ⟨none, 0, rfl, World.ownsRow_nil _ _ _ _, Below.refl _ _⟩

set_option maxRecDepth 100000 in
theorem clone_any {w : World} {A : Option Addr} {n c : Nat} {l : List Nat} (h : Rd w w.heap.size 1 A n (by8 l)) (hr : n ≤ 140737488351232) (hA : A = none → n = 0) :
    Calls Try.prog 24 #[.slice A n c] w (Made8 l w) := by
  have H := Lib.hid h
  have hlen : l.length = n := by simpa [by8_len] using h.len1
  have HL := Lib.hid hlen
  clear h hlen
  cases A with
  | none =>
    have hn := hA rfl
    have HN : Hid (l = []) := Lib.hid (List.eq_nil_of_length_eq_zero (by rw [HL.out]; exact hn))
    subst hn
    have e1 := Lib.run_eql_slice_nil (P := Try.prog) w 22 5 none 0 c 0 0 Try.underlying22
    clear hA
    go_enter Try.func24, Try.ntmps24
    go_wp2
    go_ret
    rw [HN.out]
    exact Made8.of_nil w
  | some a =>
    have e1 := Lib.run_eql_slice_nil (P := Try.prog) w 22 5 (some a) n c 0 0 Try.underlying22
    clear hA
    go_enter Try.func24, Try.ntmps24
    go_wp2_with (at_builtin; refine wpList_app _ rfl (.tmp 5) (.tmp 6) 22 rfl w w.heap.size 5 (.int .u8 0) 1 1 Try.underlying22 info5 rfl (by decide) _ 0 [] rfl (own_empty w _ 5 1 (Nat.le_refl _)) w.heap.size (some a) n c (by8 l) rfl (H.out.alloc (Nat.le_refl _) _) (by8_one l) (by unfold maxLen; omega) (by omega) ((Below.refl _ _).alloc (Nat.le_refl _) _) (Nat.le_refl _) ?_)
    intro A1 c1 w1 hown1 hg1 hB1
    go_wp2
    go_ret
    exact Made8.mk rfl hown1 hB1 rfl

/-- the bytes that a frame's sum is of -/
def sumOf (l : List Nat) : List Nat := (l.drop 2).take 5 ++ l.drop 11

set_option maxRecDepth 100000 in
theorem summed_any {w : World} {A : Option Addr} {n c : Nat} {l : List Nat} (h : Rd w w.heap.size 1 A n (by8 l)) (h11 : 11 ≤ n) (hc : n ≤ c) (hcm : c ≤ maxLen) (hr : n ≤ 140737488351232) :
    Calls Try.prog 20 #[.slice A n c] w (Made8 (sumOf l) w) := by
  have hlen : l.length = n := by simpa [by8_len] using h.len1
  have HL := Lib.hid hlen
  obtain ⟨b, off, rfl, hb, hcell⟩ := h.at_ (by omega)
  have d2 := (h.drop1 (k := 2) (c := c) (by omega) hc).take1 (k := 5) (by omega)
  rw [if_neg (by omega)] at d2
  have e2 : ((by8 l).drop 2).take 5 = by8 ((l.drop 2).take 5) := by simp [by8, List.map_take, List.map_drop]
  rw [e2] at d2
  simp only [Option.map_some, addr_add] at d2
  have d11 := h.drop1 (k := 11) (c := c) (by omega) hc
  have e11 : (by8 l).drop 11 = by8 (l.drop 11) := by simp [by8, List.map_drop]
  rw [e11] at d11
  simp only [Option.map_some, addr_add] at d11
  have D2 : Hid (Rd w.drew w.drew.heap.size 1 (some ⟨b, off + 2, none⟩) 5 (by8 ((l.drop 2).take 5))) := Lib.hid d2
  have D11 : Hid (Rd w.drew w.drew.heap.size 1 (if c = 11 then some ⟨b, off, none⟩ else some ⟨b, off + 11, none⟩) (n - 11) (by8 (l.drop 11))) := Lib.hid d11
  obtain ⟨p, hp⟩ : ∃ p, p = (l.drop 2).take 5 := ⟨_, rfl⟩
  obtain ⟨q, hq⟩ : ∃ q, q = l.drop 11 := ⟨_, rfl⟩
  rw [← hp] at D2
  rw [← hq] at D11
  have hp5 : p.length = 5 := by rw [hp]; simp; omega
  have HF : Hid (sumOf l = p ++ q) := Lib.hid (by rw [hp, hq]; rfl)
  have C := Lib.hid ((clone_any (c := c - 2) D2.out (by omega) (by simp)).mono fun _ _ h => h.to hp5)
  have i7 : (7 : Int) ≤ (c : Int) := by omega
  have i11 : (11 : Int) ≤ (n : Int) := by omega
  have inc : (n : Int) ≤ (c : Int) := by omega
  have hc2 : ¬ c = 2 := by omega
  clear h hcell d2 d11 e2 e11 hlen hp hq hp5
  unfold maxLen at hcm
  go_enter Try.func20, Try.ntmps20
  go_wp2
  go_region_law (first
    | (refine step_app _ rfl (.tmp 5) (.tmp 7) 22 rfl w.drew w.heap.size 5 (.int .u8 0) 1 1 Try.underlying22 info5 rfl (by decide) _ 5 _ rfl HO.out w.drew.heap.size _ _ _ _ rfl (D11.out.below HB.out) (by8_one _) (by unfold maxLen; omega) (by omega) HB.out (Nat.le_refl _) ?_; intro A3 c3 w3 hown3 hg3 hB3; have HO3 := Lib.hid hown3; have HB3 := Lib.hid hB3; clear hown3 hg3 hB3)
    | (go_simp; go_at_call 24; refine C.out.mono ?_; rintro e w2 ⟨A2, c2, rfl, hown2, hB2⟩; have HO := Lib.hid hown2; have HB := Lib.hid hB2; clear hown2 hB2))
  all_goals
    go_wp2
    all_goals
      go_ret
      exact Made8.mk rfl HO3.out ((Below.refl _ w).drew.trans HB3.out) (by rw [HF.out, by8_append])
end Go.Proofs.Ytfbiobglckjilaa
