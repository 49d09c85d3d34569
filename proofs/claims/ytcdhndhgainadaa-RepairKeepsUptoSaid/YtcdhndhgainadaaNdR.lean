/-
  A node's six cells read xs a rich tree: its attributes, its pieces of text, its kids.
-/
import Derived.Test.YtcdhndhgainadaaRepStay
import Derived.Test.YtcdhndhgainadaaAppD
namespace Go.Proofs.Ytcdhndhgainadaa
open Go Go.ChangeShapes Go.WideShapes Go.RowKit
set_option linter.unusedVariables false
set_option linter.unusedSimpArgs false

/-- some cells beside what they read xs -/
abbrev Z (α : Type) (sz : Nat) := {p : List Value × α // p.1.length = sz}
def cz {α : Type} {sz : Nat} (zs : List (Z α sz)) : List Value := zs.flatMap fun z => z.1.1
def vz {α : Type} {sz : Nat} (zs : List (Z α sz)) : List α := zs.map fun z => z.1.2
theorem cz_append {α : Type} {sz : Nat} (a b : List (Z α sz)) : cz (a ++ b) = cz a ++ cz b := by simp [cz]
theorem vz_append {α : Type} {sz : Nat} (a b : List (Z α sz)) : vz (a ++ b) = vz a ++ vz b := by simp [vz]
theorem vz_len {α : Type} {sz : Nat} (a : List (Z α sz)) : (vz a).length = a.length := by simp [vz]
theorem cz_len {α : Type} {sz : Nat} (a : List (Z α sz)) : (cz a).length = a.length * sz := flatN_len _ sz (fun z => z.2) a

/-- attributes -/
def acells (xs : List Att) : List Value := xs.flatMap fun a => [.string a.1, .string a.2]
structure RdA (w : World) (B : Nat) (A : Option Addr) (n c : Nat) (xs : List Att) : Prop where
  row : Rd w B 2 A n (acells xs)
  len : xs.length = n
  cap : n ≤ c
  max : c ≤ 9223372036854775807
/-- a piece -/
inductive PcR (w : World) (B : Nat) : List Value → Pce → Prop
  | mk (s : ByteArray) (A : Option Addr) (n c : Nat) (xs : List Att) (h : RdA w B A n c xs) : PcR w B [.string s, .slice A n c] (s, xs)
/-- a row of things -/
structure RdZ {α : Type} (sz : Nat) (R : List Value → α → Prop) (w : World) (B : Nat) (A : Option Addr) (n c : Nat) (zs : List (Z α sz)) : Prop where
  row : Rd w B sz A n (cz zs)
  len : zs.length = n
  all : ∀ z ∈ zs, R z.1.1 z.1.2
  cap : n ≤ c
  max : c ≤ 9223372036854775807
/-- pieces -/
def RdP (w : World) (B : Nat) (A : Option Addr) (n c : Nat) (ps : List Pce) : Prop := ∃ zs : List (Z Pce 2), vz zs = ps ∧ RdZ 2 (PcR w B) w B A n c zs
/-- a node -/
inductive NdR (w : World) (B : Nat) : List Value → RT → Prop
  | mk (n r : Int) (k : ByteArray) (AA : Option Addr) (an ac : Nat) (at_ : List Att) (TA : Option Addr) (tn tc : Nat) (tx : List Pce) (A : Option Addr) (m c : Nat) (zs : List (Z RT 6))
      (ha : RdA w B AA an ac at_) (hp : RdP w B TA tn tc tx) (hrow : Rd w B 6 A m (cz zs)) (hlen : zs.length = m) (hall : ∀ z ∈ zs, NdR w B z.1.1 z.1.2) (hcap : m ≤ c) (hmax : c ≤ 9223372036854775807) :
      NdR w B [.int .i64 n, .int .i64 r, .string k, .slice AA an ac, .slice TA tn tc, .slice A m c] (.node n r k at_ tx (vz zs))
/-- nodes -/
def RdN (w : World) (B : Nat) (A : Option Addr) (n c : Nat) (ts : List RT) : Prop := ∃ zs : List (Z RT 6), vz zs = ts ∧ RdZ 6 (NdR w B) w B A n c zs

section
variable {w w' : World} {B B' : Nat} {A : Option Addr} {n c : Nat}
theorem RdA.keep {xs : List Att} (h : RdA w B A n c xs) (hB : B ≤ B') (hw : ∀ p : Addr, p.block < B → w'.cell? p = w.cell? p) : RdA w' B' A n c xs := ⟨(h.row.keep hw).more hB, h.len, h.cap, h.max⟩
theorem PcR.keep {v : List Value} {p : Pce} (h : PcR w B v p) (hB : B ≤ B') (hw : ∀ p : Addr, p.block < B → w'.cell? p = w.cell? p) : PcR w' B' v p := by
  cases h with
  | mk s A n c xs h => exact .mk s A n c xs (h.keep hB hw)
theorem RdP.keep {ps : List Pce} (h : RdP w B A n c ps) (hB : B ≤ B') (hw : ∀ p : Addr, p.block < B → w'.cell? p = w.cell? p) : RdP w' B' A n c ps := by
  obtain ⟨zs, e, h⟩ := h
  exact ⟨zs, e, (h.row.keep hw).more hB, h.len, fun z hz => (h.all z hz).keep hB hw, h.cap, h.max⟩
theorem NdR.keep {v : List Value} {t : RT} (h : NdR w B v t) (hB : B ≤ B') (hw : ∀ p : Addr, p.block < B → w'.cell? p = w.cell? p) : NdR w' B' v t := by
  induction h with
  | mk n r k AA an ac at_ TA tn tc tx A m c zs ha hp hrow hlen hall hcap hmax ih =>
    exact .mk n r k AA an ac at_ TA tn tc tx A m c zs (ha.keep hB hw) (hp.keep hB hw) ((hrow.keep hw).more hB) hlen ih hcap hmax
theorem RdN.keep {ts : List RT} (h : RdN w B A n c ts) (hB : B ≤ B') (hw : ∀ p : Addr, p.block < B → w'.cell? p = w.cell? p) : RdN w' B' A n c ts := by
  obtain ⟨zs, e, h⟩ := h
  exact ⟨zs, e, (h.row.keep hw).more hB, h.len, fun z hz => (h.all z hz).keep hB hw, h.cap, h.max⟩
theorem NdR.beneath {v : List Value} {t : RT} (h : NdR w B v t) (hb : Below B w w') (hB : B ≤ B') : NdR w' B' v t := h.keep hB fun _ hp => hb.cell hp
theorem RdN.beneath {ts : List RT} (h : RdN w B A n c ts) (hb : Below B w w') (hB : B ≤ B') : RdN w' B' A n c ts := h.keep hB fun _ hp => hb.cell hp
theorem RdP.beneath {ps : List Pce} (h : RdP w B A n c ps) (hb : Below B w w') (hB : B ≤ B') : RdP w' B' A n c ps := h.keep hB fun _ hp => hb.cell hp
theorem RdA.beneath {xs : List Att} (h : RdA w B A n c xs) (hb : Below B w w') (hB : B ≤ B') : RdA w' B' A n c xs := h.keep hB fun _ hp => hb.cell hp
theorem RdA.nil (w : World) (B : Nat) : RdA w B none 0 0 [] := ⟨Rd.nil _ _ _ _, rfl, Nat.le_refl _, by decide⟩
theorem RdP.nil (w : World) (B : Nat) : RdP w B none 0 0 [] := ⟨[], rfl, Rd.nil _ _ _ _, rfl, by simp, Nat.le_refl _, by decide⟩
theorem RdN.nil (w : World) (B : Nat) : RdN w B none 0 0 [] := ⟨[], rfl, Rd.nil _ _ _ _, rfl, by simp, Nat.le_refl _, by decide⟩
theorem RdP.length {ps : List Pce} (h : RdP w B A n c ps) : ps.length = n := by
  obtain ⟨zs, rfl, h⟩ := h
  rw [vz_len, h.len]
theorem RdN.length {ts : List RT} (h : RdN w B A n c ts) : ts.length = n := by
  obtain ⟨zs, rfl, h⟩ := h
  rw [vz_len, h.len]

/-- a node's parts -/
structure NdP (w : World) (B : Nat) (t : RT) (n r : Int) (k : ByteArray) (AA : Option Addr) (an ac : Nat) (TA : Option Addr) (tn tc : Nat) (A : Option Addr) (m c : Nat) (at_ : List Att) (tx : List Pce) (ks : List RT) : Prop where
  tree : t = .node n r k at_ tx ks
  attrs : RdA w B AA an ac at_
  text : RdP w B TA tn tc tx
  kids : RdN w B A m c ks
theorem NdR.parts {v : List Value} {t : RT} (h : NdR w B v t) : ∃ n r k AA an ac TA tn tc A m c at_ tx ks, v = [.int .i64 n, .int .i64 r, .string k, .slice AA an ac, .slice TA tn tc, .slice A m c] ∧ NdP w B t n r k AA an ac TA tn tc A m c at_ tx ks := by
  cases h with
  | mk n r k AA an ac at_ TA tn tc tx A m c zs ha hp hrow hlen hall hcap hmax =>
    exact ⟨n, r, k, AA, an, ac, TA, tn, tc, A, m, c, at_, tx, _, rfl, rfl, ha, hp, zs, rfl, hrow, hlen, hall, hcap, hmax⟩
theorem NdP.whole {t : RT} {n r : Int} {k : ByteArray} {AA : Option Addr} {an ac : Nat} {TA : Option Addr} {tn tc : Nat} {A : Option Addr} {m c : Nat} {at_ : List Att} {tx : List Pce} {ks : List RT} (h : NdP w B t n r k AA an ac TA tn tc A m c at_ tx ks) :
    NdR w B [.int .i64 n, .int .i64 r, .string k, .slice AA an ac, .slice TA tn tc, .slice A m c] t := by
  obtain ⟨rfl, ha, hp, zs, rfl, hz⟩ := h
  exact .mk n r k AA an ac at_ TA tn tc tx A m c zs ha hp hz.row hz.len hz.all hz.cap hz.max
theorem NdR.len {v : List Value} {t : RT} (h : NdR w B v t) : v.length = 6 := by
  obtain ⟨n, r, k, AA, an, ac, TA, tn, tc, A, m, c, at_, tx, ks, rfl, _⟩ := h.parts
  rfl
theorem NdR.one {v : List Value} {t : RT} (h : NdR w B v t) : ∀ x ∈ v, x.oneCell' = true := by
  obtain ⟨n, r, k, AA, an, ac, TA, tn, tc, A, m, c, at_, tx, ks, rfl, _⟩ := h.parts
  intro x hx
  simp at hx
  rcases hx with rfl | rfl | rfl | rfl | rfl | rfl <;> rfl
theorem PcR.one {v : List Value} {t : Pce} (h : PcR w B v t) : ∀ x ∈ v, x.oneCell' = true := by
  cases h with
  | mk s A n c xs h =>
    intro x hx
    simp at hx
    rcases hx with rfl | rfl <;> rfl
theorem cz_one {α : Type} {sz : Nat} {R : List Value → α → Prop} {zs : List (Z α sz)} (h : ∀ z ∈ zs, R z.1.1 z.1.2) (hR : ∀ v a, R v a → ∀ x ∈ v, x.oneCell' = true) : ∀ x ∈ cz zs, x.oneCell' = true := by
  intro x hx
  obtain ⟨z, hz, hx⟩ := List.mem_flatMap.1 hx
  exact hR _ _ (h z hz) x hx
/-- an element's cells -/
theorem RdZ.at_ {α : Type} {sz : Nat} {R : List Value → α → Prop} {zs : List (Z α sz)} (h : RdZ sz R w B A n c zs) (hs : 0 < sz) {i : Nat} (hi : i < n) :
    ∃ b off z, A = some ⟨b, off, none⟩ ∧ b < B ∧ zs[i]? = some z ∧ z ∈ zs ∧ R z.1.1 z.1.2 ∧ ∀ j u, z.1.1[j]? = some u → w.cell? ⟨b, off + i * sz + j, none⟩ = some u := by
  obtain ⟨b, off, hA, hb, hc⟩ := h.row.at_ (by omega)
  have hl : i < zs.length := by rw [h.len]; exact hi
  have hz : zs[i]? = some zs[i] := List.getElem?_eq_getElem hl
  refine ⟨b, off, zs[i], hA, hb, hz, List.getElem_mem hl, h.all _ (List.getElem_mem hl), fun j u hu => ?_⟩
  have hj : j < sz := by
    rcases Nat.lt_or_ge j sz with h1 | h1
    · exact h1
    · rw [List.getElem?_eq_none (by rw [zs[i].2]; exact h1)] at hu; cases hu
  rw [Nat.add_assoc]
  refine hc _ _ ?_
  rw [cz, flatN _ sz (fun a => a.2) zs i _ j hz hj]
  exact hu

/-- the poorer reading -/
theorem NdR.nd {v : List Value} {t : RT} (h : NdR w B v t) : Nd w B v (erase t) := by
  induction h with
  | mk n r k AA an ac at_ TA tn tc tx A m c zs ha hp hrow hlen hall hcap hmax ih =>
    obtain ⟨ps, rfl, hps⟩ := hp
    have e1 : zcells (zs.map fun z => (⟨(z.1.1, erase z.1.2), z.2⟩ : Nz)) = cz zs := by simp [zcells, cz, List.flatMap_map]
    have e2 : ztrees (zs.map fun z => (⟨(z.1.1, erase z.1.2), z.2⟩ : Nz)) = eraseL (vz zs) := by simp [ztrees, vz, eraseL_map, Function.comp_def]
    have := Nd.of_rd (w := w) (B := B) n r k AA an ac TA tn tc (A := A) (m := m) (c := c) (zs := zs.map fun z => ⟨(z.1.1, erase z.1.2), z.2⟩) (by rw [e1]; exact hrow) (by simpa using hlen) (fun z hz => by
      obtain ⟨y, hy, rfl⟩ := List.mem_map.1 hz
      exact ih y hy) hcap hmax (Nat.le_trans hps.cap hps.max)
    rw [e2] at this
    rw [erase, vz_len, hps.len]
    exact this
end
end Go.Proofs.Ytcdhndhgainadaa
