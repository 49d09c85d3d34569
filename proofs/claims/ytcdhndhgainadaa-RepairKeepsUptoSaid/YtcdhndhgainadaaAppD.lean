/-
  Append of nodes onto a row of the call's own, as one step of a region that draws its order.
-/
import Derived.Test.YtcdhndhgainadaaKidLaw
import Derived.Test.YtcdhndhgainadaaCountM
import Derived.Test.YtcdhndhgainadaaOpenD
import Derived.Deep.RegionLaw
import Derived.Deep.RegionWith
import Derived.Deep.CutRange
import Derived.WalkSpells
namespace Go.Proofs.Ytcdhndhgainadaa
open Go Go.RowKit
set_option linter.unusedVariables false

def zNode : Value := .agg #[.int .i64 0, .int .i64 0, .string ⟨#[]⟩, .slice none 0 0, .slice none 0 0, .slice none 0 0]
theorem info31 : (Try.prog.info? 31).map (fun i => (i.zero, i.size, i.bytes)) = some (some zNode, 6, 104) := by kernel_rfl

theorem step_appD {P : Program} (w : World) {ops : Array Oper} {o : Oper} {a : Act} {K : Act → World → Prop} {Q : Exit → Act → World → Prop} {E : Prop} (hgd : o.guard = none) (s x : Operand) (t : TypeId)
    (ho : o.op = .call { callee := .builtin .append, args := #[s, x], argTypes := #[t, t] })
    (W : World) (base : Nat) (e : TypeId) (z : Value) (size bytes : Nat) (ht : P.underlying t = some (.slice e)) (hinf : (P.info? e).map (fun i => (i.zero, i.size, i.bytes)) = some (some z, size, bytes))
    (hzs : z.cells.size = size) (hsz : 0 < size)
    (v : Value) (n : Nat) (xs : List Value) (hs : a.eval s = v) (hown : w.ownsRow base e size v n xs)
    (B : Nat) (A : Option Addr) (m c : Nat) (news : List Value) (hx : a.eval x = .slice A m c) (hr : Rd w B size A m news) (h1 : ∀ u ∈ news, u.oneCell' = true)
    (h63 : n + m ≤ maxLen) (hbytes : (n + m) * bytes ≤ 140737488355328) (hbel : Below base W w) (hbase : base ≤ W.heap.size)
    (h : ∀ A' c' w', w'.ownsRow base e size (.slice A' (n + m) c') (n + m) (xs ++ news) → w.grownBy w' v.ownBlock → Below base W w' → K (a.put o.dst (.slice A' (n + m) c')) w') :
    if Region.wanted o (yielded ops a.tmps) = true then Oper.wp P o a w K Q else E := by
  have hw : Region.wanted o (yielded ops a.tmps) = true := by simp [Region.wanted, hgd]
  rw [if_pos hw]
  have hb : base ≤ w.heap.size := Nat.le_trans hbase hbel.size
  obtain ⟨A', c', w', hrun, h2, h3⟩ := run_app (P := P) w base t o.type e z size bytes ht hinf hzs hsz v n xs hown B A m c news hr h1 h63 hbytes hb
  unfold Oper.wp execOp
  simp only [ho, resolve, invoke, builtin, Sem.run_bind, Sem.run_pure, Result.andThen_ok, List.map_toArray, List.map_cons, List.map_nil, hs, hx, hrun]
  exact h A' c' w' h2 h3 (hbel.grown h3 hb (fun k hk => (hown.lt k hk).1))

/-- a node's six cells are one cell each -/
theorem Nd.one {w : World} {B : Nat} {v : List Value} {t : Tree} (h : Nd w B v t) : ∀ x ∈ v, x.oneCell' = true := by
  obtain ⟨n, r, k, AA, an, ac, TA, tn, tc, A, m, c, rfl⟩ := h.six
  intro x hx
  simp at hx
  rcases hx with rfl | rfl | rfl | rfl | rfl | rfl <;> rfl
theorem Nd.len {w : World} {B : Nat} {v : List Value} {t : Tree} (h : Nd w B v t) : v.length = 6 := by
  obtain ⟨n, r, k, AA, an, ac, TA, tn, tc, A, m, c, rfl⟩ := h.six
  rfl

/-- a node's cells beside its tree -/
abbrev Nz := {p : List Value × Tree // p.1.length = 6}
def zcells (zs : List Nz) : List Value := zs.flatMap fun z => z.1.1
def ztrees (zs : List Nz) : List Tree := zs.map fun z => z.1.2

theorem zone {w : World} {B : Nat} {zs : List Nz} (h : ∀ z ∈ zs, Nd w B z.1.1 z.1.2) : ∀ x ∈ zcells zs, x.oneCell' = true := by
  intro x hx
  obtain ⟨z, hz, hx⟩ := List.mem_flatMap.1 hx
  exact (h z hz).one x hx

/-- a row of nodes is a node's kids -/
theorem Nd.of_rd {w : World} {B : Nat} (n r : Int) (k : ByteArray) (AA : Option Addr) (an ac : Nat) (TA : Option Addr) (tn tc : Nat) {A : Option Addr} {m c : Nat} {zs : List Nz} (hrd : Rd w B 6 A m (zcells zs)) (hzl : zs.length = m) (hz : ∀ z ∈ zs, Nd w B z.1.1 z.1.2) (hmc : m ≤ c) (hc : c ≤ 9223372036854775807) (htn : tn ≤ 9223372036854775807) :
    Nd w B [.int .i64 n, .int .i64 r, .string k, .slice AA an ac, .slice TA tn tc, .slice A m c] (.node n r k tn (ztrees zs)) := by
  have hlen : (ztrees zs).length = m := by rw [ztrees, List.length_map, hzl]
  have := Nd.mk (w := w) (B := B) n r k AA an ac A c TA tn tc (fun i => (zs[i]?.map fun a => a.1.1).getD []) (ztrees zs) ?_ ?_ (by rw [hlen]; exact hmc) hc htn
  · rw [hlen] at this
    exact this
  · rcases Nat.eq_zero_or_pos m with h0 | h0
    · left
      exact List.eq_nil_of_length_eq_zero (by rw [hlen, h0])
    · right
      obtain ⟨b, off, hA, hb, hcl⟩ := hrd.at_ h0
      refine ⟨b, off, hA, hb, fun i hi j u hu => hcl _ _ ?_⟩
      have hi' : i < zs.length := by rw [ztrees, List.length_map] at hi; exact hi
      have hzi : zs[i]? = some zs[i] := List.getElem?_eq_getElem hi'
      simp only [hzi, Option.map_some, Option.getD_some] at hu
      have hj : j < 6 := by
        rcases Nat.lt_or_ge j 6 with h | h
        · exact h
        · rw [List.getElem?_eq_none (by rw [zs[i].2]; exact h)] at hu; cases hu
      rw [zcells, flatN _ 6 (fun a => a.2) zs i _ j hzi hj]
      exact hu
  · intro i t hi
    rw [ztrees, List.getElem?_map] at hi
    obtain ⟨a, ha, rfl⟩ := Option.map_eq_some_iff.1 hi
    simp only [ha, Option.map_some, Option.getD_some]
    exact hz a (List.mem_of_getElem? ha)

/-- a node's kids as a row -/
theorem kids_row {w : World} {B : Nat} {A : Option Addr} {kc : Nat → List Value} {ks : List Tree}
    (hk : ks = [] ∨ ∃ b off, A = some ⟨b, off, none⟩ ∧ b < B ∧ ∀ i, i < ks.length → ∀ j u, (kc i)[j]? = some u → w.cell? ⟨b, off + (i * 6 + j), none⟩ = some u)
    (hkids : ∀ i t, ks[i]? = some t → Nd w B (kc i) t) :
    ∃ zs : List Nz, ztrees zs = ks ∧ (∀ z ∈ zs, Nd w B z.1.1 z.1.2) ∧ Rd w B 6 A ks.length (zcells zs) := by
  obtain ⟨zs, hzl, hzs⟩ := listOf (fun (i : Nat) (z : Nz) => ks[i]? = some z.1.2 ∧ z.1.1 = kc i) ks.length (fun i _ => i) (fun i hi =>
    ⟨⟨(kc i, ks[i]), (hkids i _ (List.getElem?_eq_getElem hi)).len⟩, List.getElem?_eq_getElem hi, rfl⟩)
  have hat : ∀ (i : Nat) z, zs[i]? = some z → ks[i]? = some z.1.2 ∧ z.1.1 = kc i := fun i z hz => by
    obtain ⟨hi, rfl⟩ := List.getElem?_eq_some_iff.1 hz
    exact hzs i (by omega) hi
  refine ⟨zs, ?_, ?_, ?_, ?_⟩
  · apply List.ext_getElem?
    intro i
    rw [ztrees, List.getElem?_map]
    rcases Nat.lt_or_ge i zs.length with h | h
    · rw [List.getElem?_eq_getElem h, Option.map_some]
      exact (hat i _ (List.getElem?_eq_getElem h)).1.symm
    · rw [List.getElem?_eq_none h, List.getElem?_eq_none (by omega)]; rfl
  · intro z hz
    obtain ⟨i, hi⟩ := List.mem_iff_getElem?.1 hz
    obtain ⟨h1, h2⟩ := hat i z hi
    rw [h2]
    exact hkids i _ h1
  · rw [zcells, flatN_len _ 6 (fun a => a.2), hzl]
  · rcases hk with rfl | ⟨b, off, hA, hb, hc⟩
    · exact .inl rfl
    · refine .inr ⟨b, off, hA, hb, fun j u hu => ?_⟩
      obtain ⟨i, z, hz, hu2, rfl⟩ := flatN_at (fun z : Nz => z.1.1) 6 (fun a => a.2) (by decide) zs j u hu
      obtain ⟨h1, h2⟩ := hat _ z hz
      have hi : j / 6 < ks.length := (List.getElem?_eq_some_iff.1 h1).1
      have := hc (j / 6) hi (j % 6) u (by rw [← h2]; exact hu2)
      rw [Nat.mul_comm, Nat.div_add_mod] at this
      exact this

theorem BoxN.rd6 {w : World} {b : Nat} {vs : Array Value} {t : TypeId} (h : BoxN w b vs t) (hl : vs.size = 6) : Rd w (b + 1) 6 (some ⟨b, 0, none⟩) 1 vs.toList := by
  refine ⟨by simpa using hl, .inr ⟨b, 0, rfl, Nat.lt_succ_self _, fun j u hu => ?_⟩⟩
  rw [Nat.zero_add]
  exact h.cell (by simpa using hu)
theorem BoxN.setAt {w : World} {b : Nat} {vs : Array Value} {t : TypeId} (h : BoxN w b vs t) (j : Nat) (v : Value) : BoxN (w.setCell ⟨b, j, none⟩ v) b (vs.setIfInBounds j v) t := by
  obtain ⟨hlt, hk⟩ := Array.getElem?_eq_some_iff.1 h
  show (w.heap.modify b _)[b]? = _
  rw [Array.getElem?_eq_getElem (by rw [Array.size_modify]; exact hlt), Array.getElem_modify_self, hk]
  rfl
theorem BoxN.farD {w : World} {b : Nat} {vs : Array Value} {t : TypeId} (h : BoxN w b vs t) {p : Addr} (hp : b ≠ p.block) (u : Value) : BoxN (w.setCell p u) b vs t := (Below.heap_setCell _ _ _ _ hp).trans h
end Go.Proofs.Ytcdhndhgainadaa
