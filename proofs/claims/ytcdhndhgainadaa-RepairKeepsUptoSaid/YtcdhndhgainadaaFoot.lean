/-
  Where a node lies: the set of blocks that it reads. Rows of nodes of the call's own.
-/
import Derived.Test.YtcdhndhgainadaaSameF
import Derived.Test.YtcdhndhgainadaaAppAt
namespace Go.Proofs.Ytcdhndhgainadaa
open Go Go.RowKit
set_option linter.unusedVariables false
set_option linter.unusedSimpArgs false

/-- the world, of which only the blocks of S can be read -/
noncomputable def only (w : World) (S : Nat → Prop) : World := { w with heap := w.heap.mapIdx fun i o => if @decide (S i) (Classical.propDecidable _) then o else .deferred none }
theorem only_size (w : World) (S : Nat → Prop) : (only w S).heap.size = w.heap.size := by simp [only]
theorem only_heap {w : World} {S : Nat → Prop} {b : Nat} (h : S b) : (only w S).heap[b]? = w.heap[b]? := by
  simp only [only, Array.getElem?_mapIdx]
  cases w.heap[b]? <;> simp [h]
theorem only_not {w : World} {S : Nat → Prop} {b : Nat} (h : ¬ S b) (o : Nat) (sp) : (only w S).cell? ⟨b, o, sp⟩ = none := by
  unfold World.cell?
  simp only [only, Array.getElem?_mapIdx]
  cases w.heap[b]? <;> simp [h]
theorem only_cell {w : World} {S : Nat → Prop} {p : Addr} {u : Value} : (only w S).cell? p = some u ↔ S p.block ∧ w.cell? p = some u := by
  by_cases h : S p.block
  · rw [World.cell?_of_block (w := w) (w' := only w S) (only_heap h)]
    exact ⟨fun e => ⟨h, e⟩, fun e => e.2⟩
  · obtain ⟨b, o, sp⟩ := p
    rw [only_not h]
    exact ⟨fun e => absurd e (by simp), fun e => absurd e.1 h⟩

section
variable {w w' : World} {B B' : Nat} {A : Option Addr} {n c sz : Nat}
/-- whatever could be read can be read still -/
def Reads (w w' : World) (B : Nat) : Prop := ∀ (p : Addr) (u : Value), p.block < B → w.cell? p = some u → w'.cell? p = some u
theorem Rd.up {xs : List Value} (h : Rd w B sz A n xs) (hB : B ≤ B') (hw : Reads w w' B) : Rd w' B' sz A n xs :=
  ⟨h.1, h.2.imp id fun ⟨b, off, e, hb, hc⟩ => ⟨b, off, e, by omega, fun j u hu => hw _ _ hb (hc j u hu)⟩⟩
theorem RdA.up {xs : List Att} (h : RdA w B A n c xs) (hB : B ≤ B') (hw : Reads w w' B) : RdA w' B' A n c xs := ⟨h.row.up hB hw, h.len, h.cap, h.max⟩
theorem PcR.up {v : List Value} {p : Pce} (h : PcR w B v p) (hB : B ≤ B') (hw : Reads w w' B) : PcR w' B' v p := by
  cases h with
  | mk s A n c xs h => exact .mk s A n c xs (h.up hB hw)
theorem RdP.up {ps : List Pce} (h : RdP w B A n c ps) (hB : B ≤ B') (hw : Reads w w' B) : RdP w' B' A n c ps := by
  obtain ⟨zs, e, h⟩ := h
  exact ⟨zs, e, h.row.up hB hw, h.len, fun z hz => (h.all z hz).up hB hw, h.cap, h.max⟩
theorem NdR.up {v : List Value} {t : RT} (h : NdR w B v t) (hB : B ≤ B') (hw : Reads w w' B) : NdR w' B' v t := by
  induction h with
  | mk n r k AA an ac at_ TA tn tc tx A m c zs ha hp hrow hlen hall hcap hmax ih =>
    exact .mk n r k AA an ac at_ TA tn tc tx A m c zs (ha.up hB hw) (hp.up hB hw) (hrow.up hB hw) hlen ih hcap hmax
theorem RdN.up {ts : List RT} (h : RdN w B A n c ts) (hB : B ≤ B') (hw : Reads w w' B) : RdN w' B' A n c ts := by
  obtain ⟨zs, e, h⟩ := h
  exact ⟨zs, e, h.row.up hB hw, h.len, fun z hz => (h.all z hz).up hB hw, h.cap, h.max⟩
end

/-! ### with a footprint -/
abbrev RdAF (w : World) (S : Nat → Prop) := RdA (only w S) w.heap.size
abbrev RdPF (w : World) (S : Nat → Prop) := RdP (only w S) w.heap.size
abbrev NdF (w : World) (S : Nat → Prop) := NdR (only w S) w.heap.size
abbrev RdF (w : World) (S : Nat → Prop) := RdN (only w S) w.heap.size

/-- from w to w', the blocks of S being of S' and as they were -/
structure Stay (w w' : World) (S S' : Nat → Prop) : Prop where
  size : w.heap.size ≤ w'.heap.size
  sub : ∀ b, b < w.heap.size → S b → S' b
  same : ∀ b, b < w.heap.size → S b → w'.heap[b]? = w.heap[b]?
section
variable {w w' w'' : World} {S S' S'' : Nat → Prop} {A : Option Addr} {n c : Nat}
theorem Stay.reads (h : Stay w w' S S') : Reads (only w S) (only w' S') w.heap.size := fun p u hp hu => by
  obtain ⟨h1, h2⟩ := only_cell.1 hu
  exact only_cell.2 ⟨h.sub _ hp h1, (World.cell?_of_block (w := w) (h.same _ hp h1)).trans h2⟩
theorem Stay.refl (w : World) (S : Nat → Prop) : Stay w w S S := ⟨Nat.le_refl _, fun _ _ h => h, fun _ _ _ => rfl⟩
theorem Stay.weaken (w : World) (hs : ∀ b, b < w.heap.size → S b → S' b) : Stay w w S S' := ⟨Nat.le_refl _, hs, fun _ _ _ => rfl⟩
theorem Stay.trans (h : Stay w w' S S') (k : Stay w' w'' S' S'') : Stay w w'' S S'' :=
  ⟨Nat.le_trans h.size k.size, fun b hb hs => k.sub b (Nat.lt_of_lt_of_le hb h.size) (h.sub b hb hs), fun b hb hs => (k.same b (Nat.lt_of_lt_of_le hb h.size) (h.sub b hb hs)).trans (h.same b hb hs)⟩
theorem Stay.below (h : Below w.heap.size w w') (hs : ∀ b, b < w.heap.size → S b → S' b) : Stay w w' S S' := ⟨h.size, hs, fun b hb _ => h.block b hb⟩
/-- below a height, where the footprint is -/
theorem Stay.beneath {B : Nat} (h : Below B w w') (hb : ∀ b, b < w.heap.size → S b → b < B) (hs : ∀ b, b < w.heap.size → S b → S' b) : Stay w w' S S' := ⟨h.size, hs, fun b hb2 h2 => h.block b (hb b hb2 h2)⟩
theorem RdA.stay {xs : List Att} (h : RdAF w S A n c xs) (k : Stay w w' S S') : RdAF w' S' A n c xs := h.up k.size k.reads
theorem RdP.stay {xs : List Pce} (h : RdPF w S A n c xs) (k : Stay w w' S S') : RdPF w' S' A n c xs := h.up k.size k.reads
theorem NdR.stay {v : List Value} {t : RT} (h : NdF w S v t) (k : Stay w w' S S') : NdF w' S' v t := h.up k.size k.reads
theorem RdN.stay {ts : List RT} (h : RdF w S A n c ts) (k : Stay w w' S S') : RdF w' S' A n c ts := h.up k.size k.reads
theorem only_reads (w : World) (S : Nat → Prop) (B : Nat) : Reads (only w S) w B := fun p u _ hu => (only_cell.1 hu).2
theorem NdR.bare {v : List Value} {t : RT} (h : NdF w S v t) : NdR w w.heap.size v t := h.up (Nat.le_refl _) (only_reads w S _)
theorem RdN.bare {ts : List RT} (h : RdF w S A n c ts) : RdN w w.heap.size A n c ts := h.up (Nat.le_refl _) (only_reads w S _)
theorem RdA.bare {xs : List Att} (h : RdAF w S A n c xs) : RdA w w.heap.size A n c xs := h.up (Nat.le_refl _) (only_reads w S _)
theorem RdP.bare {xs : List Pce} (h : RdPF w S A n c xs) : RdP w w.heap.size A n c xs := h.up (Nat.le_refl _) (only_reads w S _)
theorem Rd.bare {sz : Nat} {xs : List Value} {B : Nat} (h : Rd (only w S) B sz A n xs) : Rd w B sz A n xs := h.up (Nat.le_refl _) (only_reads w S _)
theorem NdR.foot {v : List Value} {t : RT} {B : Nat} (h : NdR w B v t) (hB : B ≤ w.heap.size) (hs : ∀ b, b < B → S b) : NdF w S v t := h.up hB fun p u hp hu => only_cell.2 ⟨hs _ hp, hu⟩
theorem Rd.foot {sz : Nat} {xs : List Value} {B : Nat} (h : Rd w B sz A n xs) (hB : B ≤ w.heap.size) (hs : ∀ b off, A = some ⟨b, off, none⟩ → S b) : Rd (only w S) w.heap.size sz A n xs :=
  ⟨h.1, h.2.imp id fun ⟨b, off, e, hb, hc⟩ => ⟨b, off, e, by omega, fun j u hu => only_cell.2 ⟨hs b off e, hc j u hu⟩⟩⟩
end

/-! ### a row of nodes of the call's own -/
/-- the footprint of what the row holds: S and what is new, but not the row's own block -/
def Sx (n₀ : Nat) (S : Nat → Prop) (v : Value) : Nat → Prop := fun b => (S b ∨ n₀ ≤ b) ∧ v.ownBlock ≠ some b
def Sn (n₀ : Nat) (S : Nat → Prop) : Nat → Prop := fun b => S b ∨ n₀ ≤ b
structure Row (w : World) (n₀ : Nat) (S : Nat → Prop) (v : Value) (zs : List (Z RT 6)) : Prop where
  own : w.ownsRow n₀ 31 6 v zs.length (cz zs)
  all : ∀ z ∈ zs, NdF w (Sx n₀ S v) z.1.1 z.1.2
section
variable {w w' : World} {S S' : Nat → Prop} {n₀ : Nat} {v v' : Value} {zs zs' : List (Z RT 6)}
theorem Row.nil (w : World) (n₀ : Nat) (S : Nat → Prop) : Row w n₀ S (.slice none 0 0) [] := ⟨World.ownsRow_nil _ _ _ _, by simp⟩
theorem Row.slice (h : Row w n₀ S v zs) : ∃ A c, v = .slice A zs.length c ∧ zs.length ≤ c ∧ c ≤ maxLen := own_slice h.own
theorem nd_one {zs : List (Z RT 6)} (h : ∀ z ∈ zs, NdF w S z.1.1 z.1.2) : ∀ x ∈ cz zs, x.oneCell' = true := cz_one h fun v a h => h.one
theorem RdF.ones {A : Option Addr} {n c : Nat} {zs : List (Z RT 6)} (h : RdZ 6 (NdF w S) (only w S) w.heap.size A n c zs) : ∀ x ∈ cz zs, x.oneCell' = true := nd_one h.all
/-- the row, read -/
theorem Row.rdz {A : Option Addr} {n c : Nat} (h : Row w n₀ S (.slice A n c) zs) (hS : ∀ b, b < w.heap.size → Sn n₀ S b → S' b) : n = zs.length ∧ RdZ 6 (NdF w S') (only w S') w.heap.size A zs.length c zs := by
  obtain ⟨A', c', e, h1, h2⟩ := h.slice
  injection e with e1 e2 e3
  subst e1 e2 e3
  have hr := Rd.of_own h.own
  refine ⟨rfl, ⟨hr.1, hr.2.imp id ?_⟩, rfl, fun z hz => (h.all z hz).stay (.weaken w fun b hb hs => hS b hb hs.1), h1, h2⟩
  rintro ⟨b, off, e, hb, hc⟩
  refine ⟨b, off, e, hb, fun j u hu => only_cell.2 ⟨hS b hb (.inr ?_), hc j u hu⟩⟩
  subst e
  rcases h.own.2 with ⟨h3, -⟩ | ⟨g, cap, cur, h3, h4, h5⟩
  · cases h3
  · cases h3; exact h4
theorem Row.rd {A : Option Addr} {n c : Nat} (h : Row w n₀ S (.slice A n c) zs) (hS : ∀ b, b < w.heap.size → Sn n₀ S b → S' b) : RdF w S' A n c (vz zs) := by
  obtain ⟨rfl, h1⟩ := h.rdz hS
  exact ⟨zs, rfl, h1⟩
/-- elsewhere something is made -/
theorem Row.below (h : Row w n₀ S v zs) (hb : Below w.heap.size w w') : Row w' n₀ S v zs :=
  ⟨own_heap h.own fun g eg => hb.block g (h.own.lt g eg).2, fun z hz => (h.all z hz).stay (.below hb fun _ _ h => h)⟩
theorem Row.weaken (h : Row w n₀ S v zs) (hS : ∀ b, S b → Sn n₀ S' b) : Row w n₀ S' v zs :=
  ⟨h.own, fun z hz => (h.all z hz).stay (.weaken w fun b _ hb => ⟨hb.1.elim (hS b) .inr, hb.2⟩)⟩
/-- behind an append -/
theorem Row.app (h : Row w n₀ S v zs) (hn₀ : n₀ ≤ w.heap.size) (hnew : ∀ z ∈ zs', NdF w (Sx n₀ S v) z.1.1 z.1.2)
    (hown : w'.ownsRow n₀ 31 6 v' (zs.length + zs'.length) (cz zs ++ cz zs')) (hg : w.grownBy w' v.ownBlock) (hat : ∀ g, v'.ownBlock = some g → v.ownBlock = some g ∨ w.heap.size = g) : Row w' n₀ S v' (zs ++ zs') := by
  refine ⟨by rw [List.length_append, cz_append]; exact hown, fun z hz => ?_⟩
  have hst : Stay w w' (Sx n₀ S v) (Sx n₀ S v') := ⟨hg.size, fun b hb hs => ⟨hs.1, fun e => by
    rcases hat b e with h1 | h1
    · exact hs.2 h1
    · omega⟩, fun b hb hs => hg.block b hb fun e => hs.2 e.symm⟩
  rcases List.mem_append.1 hz with h1 | h1
  · exact (h.all z h1).stay hst
  · exact (hnew z h1).stay hst
/-- what is appended: read where the row is not -/
theorem sx_of {w0 : World} {n₀ : Nat} {S : Nat → Prop} {v : Value} (hv : ∀ g, v.ownBlock = some g → g < w0.heap.size) (hS : ∀ b, S b → b < n₀) (hlo : ∀ g, v.ownBlock = some g → n₀ ≤ g) (hn₀ : n₀ ≤ w0.heap.size) : ∀ b, Sn w0.heap.size S b → Sx n₀ S v b := fun b hb =>
  ⟨hb.imp id (Nat.le_trans hn₀), fun e => by
    rcases hb with h | h
    · have := hS b h; have := hlo b e; omega
    · have := hv b e; omega⟩
end
end Go.Proofs.Ytcdhndhgainadaa
