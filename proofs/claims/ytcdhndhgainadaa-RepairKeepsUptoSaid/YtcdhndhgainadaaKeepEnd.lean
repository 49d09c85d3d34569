/-
  KeepEnd: KeepLaw, TellC, WRepairKeeps, one behind the other.
-/
import Derived.Test.YtcdhndhgainadaaRepEnd
import Derived.LoopTactic
import Derived.Test.YtcdhndhgainadaaRightF
import Derived.Deep.Cut
import Derived.Deep.CutRange

/-
  RepairKeeps, plainly: what is told of a tree, and of what it becomes.
-/
namespace Go.Proofs.Ytcdhndhgainadaa
open Go Go.RowKit
set_option linter.unusedVariables false
set_option linter.unusedSimpArgs false

mutual
/-- the nodes that are not made, in order, without what stands under them -/
def tl : RT → List RT
  | .node n r k a x ks => (if n = 0 ∧ r = 0 ∧ a.length = 0 then [] else [.node n r k a [] []]) ++ tlL ks
def tlL : List RT → List RT
  | [] => []
  | t :: ts => tl t ++ tlL ts
end
mutual
/-- all texts -/
def xt : RT → List Pce
  | .node n r k a x ks => x ++ xtL ks
def xtL : List RT → List Pce
  | [] => []
  | t :: ts => xt t ++ xtL ts
end
def fixK (k : ByteArray) : ByteArray := if (kd k).known = true ∧ kd k ≠ .doc then k else sPara
def fixT : RT → RT
  | .node n r k a x ks => .node n r (fixK k) a x ks

/-- a telling that made nodes add nothing to -/
structure Hom {α : Type} (f : RT → List α) (fL : List RT → List α) : Prop where
  nil : fL [] = []
  cons : ∀ t ts, fL (t :: ts) = f t ++ fL ts
  made : ∀ k ks, f (mk k ks) = fL ks
section
variable {α : Type} {f : RT → List α} {fL : List RT → List α}
theorem Hom.append (h : Hom f fL) (a b : List RT) : fL (a ++ b) = fL a ++ fL b := by
  induction a with
  | nil => simp [h.nil]
  | cons t ts ih => rw [List.cons_append, h.cons, h.cons, ih, List.append_assoc]
theorem Hom.one (h : Hom f fL) (t : RT) : fL [t] = f t := by rw [h.cons, h.nil, List.append_nil]
theorem Hom.runs (h : Hom f fL) (g : Srt → List RT → List RT) (hg : ∀ s run, fL (g s run) = fL run) (q : RT → Srt) (l : List RT) : fL ((runsBy q l).flatMap fun p => g p.1 p.2) = fL l := by
  have h1 : ∀ rs : List (Srt × List RT), fL (rs.flatMap fun p => g p.1 p.2) = fL (rs.flatMap (·.2)) := by
    intro rs
    induction rs with
    | nil => rfl
    | cons p ps ih => rw [List.flatMap_cons, List.flatMap_cons, h.append, h.append, ih, hg]
  rw [h1, runsBy_flat]
theorem Hom.wrapF (h : Hom f fL) (s : Srt) (run : List RT) : fL (wrapF s run) = fL run := by
  cases s <;> simp only [Go.Proofs.Ytcdhndhgainadaa.wrapF] <;> first | rfl | (rw [h.one, h.made, h.one, h.made]; done) | (rw [h.one, h.made]; done)
theorem Hom.fitF (h : Hom f fL) (l : List RT) : fL (fitF l) = fL l := h.runs Go.Proofs.Ytcdhndhgainadaa.wrapF h.wrapF _ l
theorem Hom.wrapT (h : Hom f fL) (p : Kd) (s : Srt) (run : List RT) : fL (wrapT p s run) = fL run := by
  unfold Go.Proofs.Ytcdhndhgainadaa.wrapT
  cases s with
  | stay => rfl
  | _ =>
    cases p <;> simp only [] <;> first
      | exact h.wrapF _ _
      | (rw [h.one, h.made, h.fitF]; done)
      | (split <;> first | (rw [h.one, h.made, h.one, h.made, h.fitF]; done) | (rw [h.one, h.made]; done))
      | (rw [h.one, h.made, h.one, h.made, h.fitF]; done)
      | (rw [h.one, h.made]; done)
theorem Hom.fitT (h : Hom f fL) (p : Kd) (l : List RT) : fL (fitT p l) = fL l := h.runs (Go.Proofs.Ytcdhndhgainadaa.wrapT p) (h.wrapT p) _ l
theorem Hom.least (h : Hom f fL) (k : Kd) : f (leastT k) = [] := by
  cases k <;> simp only [leastT] <;> rw [h.made] <;> first | rw [h.nil] | (rw [h.one, h.made, h.nil])
theorem Hom.orLeast (h : Hom f fL) (k : Kd) (l : List RT) : fL (orLeast k l) = fL l := by
  unfold Go.Proofs.Ytcdhndhgainadaa.orLeast
  split
  · rename_i e; rw [e, h.one, h.least, h.nil]
  · rfl
end
theorem tl_hom : Hom tl tlL := ⟨by rw [tlL], fun t ts => by rw [tlL], fun k ks => by rw [mk, tl]; simp⟩
theorem xt_hom : Hom xt xtL := ⟨by rw [xtL], fun t ts => by rw [xtL], fun k ks => by rw [mk, xt]; simp⟩
theorem toldT_tl (x : List Pce) : tlL (toldT x) = [] := by
  unfold toldT
  split
  · rw [tlL]
  · rw [tl_hom.one, tl]; simp [tlL]
theorem toldT_xt (x : List Pce) : xtL (toldT x) = x := by
  unfold toldT
  split
  · rename_i e; rw [xtL, e]
  · rw [xt_hom.one, xt, xtL, List.append_nil]
theorem self_map (n r : Int) (k : ByteArray) (a : List Att) : (if n = 0 ∧ r = 0 ∧ a.length = 0 then [] else [RT.node n r k a [] []]).map fixT = if n = 0 ∧ r = 0 ∧ a.length = 0 then [] else [RT.node n r (fixK k) a [] []] := by
  split <;> rfl
mutual
theorem node_tl : ∀ t : RT, tlL (nodeT t) = (tl t).map fixT
  | .node n r k a x ks => by
    have hr := row_tl ks
    rw [nodeT, tl, List.map_append, self_map, ← hr]
    by_cases hx : (kd k).known = true ∧ kd k ≠ .doc
    · have e : fixK k = k := if_pos hx
      rw [e]
      unfold nodeK
      cases hk : kd k <;> rw [hk] at hx <;> simp only [] <;> first
        | (exact absurd rfl hx.2)
        | (exact absurd hx.1 (by decide))
        | (rw [tl_hom.one, tl, tl_hom.fitT]; done)
        | (rw [tl_hom.one, tl, tl_hom.orLeast, tl_hom.fitT, tl_hom.append, toldT_tl, List.nil_append]; done)
        | (rw [tl_hom.cons, tl, tlL, List.append_nil]; done)
    · have e : fixK k = sPara := if_neg hx
      rw [e]
      unfold nodeK
      cases hk : kd k <;> rw [hk] at hx <;> simp only [] <;> first
        | (exact absurd ⟨rfl, by decide⟩ hx)
        | (rw [tl_hom.cons, tl, tlL, List.append_nil]; done)
theorem row_tl : ∀ ts : List RT, tlL (rowT ts) = (tlL ts).map fixT
  | [] => by rw [rowT, tlL]; rfl
  | t :: ts => by rw [rowT, tl_hom.append, tlL, List.map_append, node_tl t, row_tl ts]
end
mutual
theorem node_xt : ∀ t : RT, xtL (nodeT t) = xt t
  | .node n r k a x ks => by
    have hr := row_xt ks
    rw [nodeT, xt, ← hr]
    unfold nodeK
    cases hk : kd k <;> simp only [] <;> first
      | (rw [xt_hom.one, xt, xt_hom.fitT])
      | (rw [xt_hom.one, xt, xt_hom.orLeast, xt_hom.fitT, xt_hom.append, toldT_xt, List.nil_append])
      | (rw [xt_hom.cons, xt, xtL, List.append_nil])
theorem row_xt : ∀ ts : List RT, xtL (rowT ts) = xtL ts
  | [] => by rw [rowT, xtL]
  | t :: ts => by rw [rowT, xt_hom.append, xtL, node_xt t, row_xt ts]
end
theorem repair_tl (n r : Int) (k : ByteArray) (a : List Att) (x : List Pce) (ks : List RT) :
    tl (repairT (.node n r k a x ks)) = (if n = 0 ∧ r = 0 ∧ a.length = 0 then [] else [RT.node n r sDoc a [] []]) ++ (tlL ks).map fixT := by
  rw [repairT, tl, tl_hom.append, toldT_tl, List.nil_append, tl_hom.fitT, row_tl]
theorem repair_xt (n r : Int) (k : ByteArray) (a : List Att) (x : List Pce) (ks : List RT) : xt (repairT (.node n r k a x ks)) = x ++ xtL ks := by
  rw [repairT, xt, xt_hom.append, toldT_xt, xt_hom.fitT, row_xt, List.nil_append]
theorem repair_xt2 (t : RT) : xt (repairT t) = xt t := by
  obtain ⟨n, r, k, a, x, ks⟩ := t
  rw [repair_xt, xt]

/-- is a kind kept, from one telling to the other? -/
def Kept (root : Bool) (i : Nat) (k k' : ByteArray) : Prop := (root = true ∧ i = 0) ∨ k = k' ∨ (kd k).known = false ∨ kd k = .doc
theorem fix_kept {k : ByteArray} : fixK k = k ∨ (kd k).known = false ∨ kd k = .doc := by
  unfold fixK
  split
  · exact .inl rfl
  · rename_i h
    by_cases h1 : (kd k).known = true
    · by_cases h2 : kd k = .doc
      · exact .inr (.inr h2)
      · exact absurd ⟨h1, h2⟩ h
    · exact .inr (.inl (by simpa using h1))
theorem tl_shape : ∀ (t : RT), ∀ u ∈ tl t, ∃ n r k a, u = .node n r k a [] []
  | .node n r k a x ks, u, hu => by
    rw [tl] at hu
    rcases List.mem_append.1 hu with h | h
    · split at h
      · cases h
      · obtain rfl : u = _ := by simpa using h
        exact ⟨n, r, k, a, rfl⟩
    · exact tlL_shape ks u h
where tlL_shape : ∀ (ts : List RT), ∀ u ∈ tlL ts, ∃ n r k a, u = .node n r k a [] []
  | [], u, hu => by simp [tlL] at hu
  | t :: ts, u, hu => by
    rw [tlL] at hu
    rcases List.mem_append.1 hu with h | h
    · exact tl_shape t u h
    · exact tlL_shape ts u h
/-- WHAT IS TOLD STAYS -/
theorem keeps (n r : Int) (k : ByteArray) (a : List Att) (x : List Pce) (ks : List RT) :
    (tl (repairT (.node n r k a x ks))).length = (tl (.node n r k a x ks)).length ∧
    ∀ i u, (tl (.node n r k a x ks))[i]? = some u → ∃ n1 r1 k1 a1 k2, u = .node n1 r1 k1 a1 [] [] ∧ (tl (repairT (.node n r k a x ks)))[i]? = some (.node n1 r1 k2 a1 [] []) ∧ Kept (!decide (n = 0 ∧ r = 0 ∧ a.length = 0)) i k1 k2 := by
  rw [repair_tl, tl]
  by_cases h : n = 0 ∧ r = 0 ∧ a.length = 0
  · simp only [h, and_self, if_true, List.nil_append, List.length_map, decide_true, Bool.not_true, true_and]
    intro i u hu
    obtain ⟨n1, r1, k1, a1, rfl⟩ := tl_shape.tlL_shape ks u (List.mem_of_getElem? hu)
    refine ⟨n1, r1, k1, a1, fixK k1, rfl, by rw [List.getElem?_map, hu]; rfl, ?_⟩
    rcases fix_kept (k := k1) with h1 | h1
    · exact .inr (.inl h1.symm)
    · exact .inr (.inr h1)
  · simp only [if_neg h, decide_eq_false h, Bool.not_false, List.length_append, List.length_map, List.length_cons, List.length_nil, true_and]
    intro i u hu
    cases i with
    | zero =>
      simp at hu
      subst hu
      exact ⟨n, r, k, a, sDoc, rfl, rfl, .inl ⟨rfl, rfl⟩⟩
    | succ i =>
      have hu2 : (tlL ks)[i]? = some u := by simpa using hu
      obtain ⟨n1, r1, k1, a1, rfl⟩ := tl_shape.tlL_shape ks u (List.mem_of_getElem? hu2)
      refine ⟨n1, r1, k1, a1, fixK k1, rfl, by simp [hu2, fixT], ?_⟩
      rcases fix_kept (k := k1) with h1 | h1
      · exact .inr (.inl h1.symm)
      · exact .inr (.inr h1)
theorem tl_size : ∀ t : RT, (tl t).length ≤ rsize t
  | .node n r k a x ks => by
    have := tlL_size ks
    rw [tl, rsize, List.length_append]
    split <;> simp <;> omega
where tlL_size : ∀ ts : List RT, (tlL ts).length ≤ rsizeL ts
  | [] => by simp [tlL]
  | t :: ts => by
    have := tl_size t; have := tlL_size ts
    rw [tlL, rsizeL, List.length_append]; omega
end Go.Proofs.Ytcdhndhgainadaa

/-
  The contract of the law's told: two rows of the call's own, of nodes and of pieces.
-/
namespace Go.Proofs.Ytcdhndhgainadaa
open Go Go.RowKit
set_option linter.unusedVariables false
set_option linter.unusedSimpArgs false

def zPiece : Value := .agg #[.string ⟨#[]⟩, .slice none 0 0]
theorem info55 : (Try.prog.info? 55).map (fun i => (i.zero, i.size, i.bytes)) = some (some zPiece, 2, 40) := by kernel_rfl

/-- two rows of the call's own -/
structure Tel (w : World) (n₀ : Nat) (S : Nat → Prop) (vl vp : Value) (zl : List (Z RT 6)) (zp : List (Z Pce 2)) : Prop where
  l : w.ownsRow n₀ 31 6 vl zl.length (cz zl)
  la : ∀ z ∈ zl, NdF w S z.1.1 z.1.2
  p : w.ownsRow n₀ 55 2 vp zp.length (cz zp)
  pa : ∀ z ∈ zp, PcR (only w S) w.heap.size z.1.1 z.1.2
/-- what may have turned: the two rows -/
structure Grow (w : World) (vl vp : Value) (w' : World) (vl' vp' : Value) : Prop where
  os : w'.os = w.os
  tape : w'.tape = w.tape
  output : w'.output = w.output
  size : w.heap.size ≤ w'.heap.size
  block : ∀ k, k < w.heap.size → vl.ownBlock ≠ some k → vp.ownBlock ≠ some k → w'.heap[k]? = w.heap[k]?
  ol : ∀ g, vl'.ownBlock = some g → vl.ownBlock = some g ∨ w.heap.size ≤ g
  op : ∀ g, vp'.ownBlock = some g → vp.ownBlock = some g ∨ w.heap.size ≤ g
section
variable {w w1 w2 : World} {n₀ : Nat} {S : Nat → Prop} {vl vp vl1 vp1 vl2 vp2 : Value} {zl zl' : List (Z RT 6)} {zp zp' : List (Z Pce 2)}
theorem Grow.refl (w : World) (vl vp : Value) : Grow w vl vp w vl vp := ⟨rfl, rfl, rfl, Nat.le_refl _, fun _ _ _ _ => rfl, fun _ h => .inl h, fun _ h => .inl h⟩
theorem Grow.trans (h : Grow w vl vp w1 vl1 vp1) (k : Grow w1 vl1 vp1 w2 vl2 vp2) : Grow w vl vp w2 vl2 vp2 :=
  ⟨k.os.trans h.os, k.tape.trans h.tape, k.output.trans h.output, Nat.le_trans h.size k.size, fun i hi h1 h2 => (k.block i (Nat.lt_of_lt_of_le hi h.size) (fun e => by
    rcases h.ol i e with h3 | h3
    · exact h1 h3
    · omega) (fun e => by
    rcases h.op i e with h3 | h3
    · exact h2 h3
    · omega)).trans (h.block i hi h1 h2), fun g hg => by
    rcases k.ol g hg with h3 | h3
    · exact h.ol g h3
    · exact .inr (Nat.le_trans h.size h3), fun g hg => by
    rcases k.op g hg with h3 | h3
    · exact h.op g h3
    · exact .inr (Nat.le_trans h.size h3)⟩
theorem Grow.of_below (h : Below w.heap.size w w1) (vl vp : Value) : Grow w vl vp w1 vl vp := ⟨h.os, h.tape, h.output, h.size, fun k hk _ _ => h.block k hk, fun _ h => .inl h, fun _ h => .inl h⟩
theorem Grow.below (h : Grow w vl vp w1 vl1 vp1) (ht : Tel w n₀ S vl vp zl zp) (hn : n₀ ≤ w.heap.size) : Below n₀ w w1 :=
  ⟨h.os, h.tape, h.output, h.size, fun k hk => h.block k (by omega) (fun e => by have := (ht.l.lt k e).1; omega) (fun e => by have := (ht.p.lt k e).1; omega)⟩
theorem Tel.below (h : Tel w n₀ S vl vp zl zp) (hb : Below w.heap.size w w1) : Tel w1 n₀ S vl vp zl zp :=
  ⟨own_heap h.l fun g e => hb.block g (h.l.lt g e).2, fun z hz => (h.la z hz).stay (.below hb fun _ _ h => h), own_heap h.p fun g e => hb.block g (h.p.lt g e).2, fun z hz => (h.pa z hz).up hb.size (Stay.below (S := S) (S' := S) hb fun _ _ h => h).reads⟩
/-- the two rows lie apart -/
theorem Tel.apart (h : Tel w n₀ S vl vp zl zp) : ∀ g, vl.ownBlock = some g → vp.ownBlock = some g → False := by
  intro g h1 h2
  rcases h.l.2 with ⟨e1, -⟩ | ⟨g1, c1, cur1, e1, -, hg1, -⟩
  · rw [e1] at h1; simp [Value.ownBlock] at h1
  · rcases h.p.2 with ⟨e2, -⟩ | ⟨g2, c2, cur2, e2, -, hg2, -⟩
    · rw [e2] at h2; simp [Value.ownBlock] at h2
    · rw [e1] at h1; rw [e2] at h2
      simp [Value.ownBlock] at h1 h2
      subst h1 h2
      rw [hg1] at hg2
      simp at hg2
theorem Tel.appL (h : Tel w n₀ S vl vp zl zp) (hn : n₀ ≤ w.heap.size) (hS : ∀ b, S b → b < n₀) (hnew : ∀ z ∈ zl', NdF w S z.1.1 z.1.2) (hown : w1.ownsRow n₀ 31 6 vl1 (zl.length + zl'.length) (cz zl ++ cz zl')) (hg : w.grownBy w1 vl.ownBlock)
    (hat : ∀ g, vl1.ownBlock = some g → vl.ownBlock = some g ∨ w.heap.size = g) : Tel w1 n₀ S vl1 vp (zl ++ zl') zp ∧ Grow w vl vp w1 vl1 vp := by
  have hst : Stay w w1 S S := ⟨hg.size, fun _ _ h => h, fun b hb hs => hg.block b hb fun e => by have := (h.l.lt b e.symm).1; have := hS b hs; omega⟩
  refine ⟨⟨by rw [List.length_append, cz_append]; exact hown, fun z hz => ?_, own_apart h.p hg fun g e1 e2 => h.apart g e2 e1, fun z hz => (h.pa z hz).up hst.size hst.reads⟩, ⟨hg.os, hg.tape, hg.output, hg.size, fun k hk h1 h2 => hg.block k hk (fun e => h1 e.symm), fun g e => (hat g e).imp id fun h => by omega, fun g e => .inl e⟩⟩
  rcases List.mem_append.1 hz with h1 | h1
  · exact (h.la z h1).stay hst
  · exact (hnew z h1).stay hst
theorem Tel.appP (h : Tel w n₀ S vl vp zl zp) (hn : n₀ ≤ w.heap.size) (hS : ∀ b, S b → b < n₀) (hnew : ∀ z ∈ zp', PcR (only w S) w.heap.size z.1.1 z.1.2) (hown : w1.ownsRow n₀ 55 2 vp1 (zp.length + zp'.length) (cz zp ++ cz zp')) (hg : w.grownBy w1 vp.ownBlock)
    (hat : ∀ g, vp1.ownBlock = some g → vp.ownBlock = some g ∨ w.heap.size = g) : Tel w1 n₀ S vl vp1 zl (zp ++ zp') ∧ Grow w vl vp w1 vl vp1 := by
  have hst : Stay w w1 S S := ⟨hg.size, fun _ _ h => h, fun b hb hs => hg.block b hb fun e => by have := (h.p.lt b e.symm).1; have := hS b hs; omega⟩
  refine ⟨⟨own_apart h.l hg fun g e1 e2 => h.apart g e1 e2, fun z hz => (h.la z hz).stay hst, by rw [List.length_append, cz_append]; exact hown, fun z hz => ?_⟩, ⟨hg.os, hg.tape, hg.output, hg.size, fun k hk h1 h2 => hg.block k hk (fun e => h2 e.symm), fun g e => .inl e, fun g e => (hat g e).imp id fun h => by omega⟩⟩
  rcases List.mem_append.1 hz with h1 | h1
  · exact (h.pa z h1).up hst.size hst.reads
  · exact (hnew z h1).up hst.size hst.reads
theorem pcs_one {B : Nat} {zs : List (Z Pce 2)} (h : ∀ z ∈ zs, PcR w B z.1.1 z.1.2) : ∀ x ∈ cz zs, x.oneCell' = true := cz_one h fun v a h => h.one
end
theorem tlL_take {ts : List RT} {i : Nat} {t : RT} (h : ts[i]? = some t) : tlL (ts.take (i + 1)) = tlL (ts.take i) ++ tl t := by
  obtain ⟨h1, rfl⟩ := List.getElem?_eq_some_iff.1 h
  rw [List.take_succ_eq_append_getElem h1, tl_hom.append, tl_hom.one]
theorem xtL_take {ts : List RT} {i : Nat} {t : RT} (h : ts[i]? = some t) : xtL (ts.take (i + 1)) = xtL (ts.take i) ++ xt t := by
  obtain ⟨h1, rfl⟩ := List.getElem?_eq_some_iff.1 h
  rw [List.take_succ_eq_append_getElem h1, xt_hom.append, xt_hom.one]
theorem tlL_le (ts : List RT) (i : Nat) : (tlL (ts.take i)).length ≤ (tlL ts).length := by
  conv => rhs; rw [← List.take_append_drop i ts]
  rw [tl_hom.append, List.length_append]; omega
theorem xtL_le (ts : List RT) (i : Nat) : (xtL (ts.take i)).length ≤ (xtL ts).length := by
  conv => rhs; rw [← List.take_append_drop i ts]
  rw [xt_hom.append, List.length_append]; omega

/-- what told owes -/
def TellC (t : RT) : Prop := ∀ (v : List Value) (w : World) (n₀ : Nat) (S : Nat → Prop) (LA : Option Addr) (lc : Nat) (PA : Option Addr) (pc : Nat) (zl : List (Z RT 6)) (zp : List (Z Pce 2)),
  (∀ b, S b → b < n₀) → n₀ ≤ w.heap.size → NdF w S v t → Tel w n₀ S (.slice LA zl.length lc) (.slice PA zp.length pc) zl zp → zl.length + (tl t).length ≤ 900000 → zp.length + (xt t).length ≤ 3000000 →
  Calls Try.prog 30 #[.agg v.toArray, .slice LA zl.length lc, .slice PA zp.length pc] w fun e w' => ∃ LA' lc' PA' pc' zl' zp', e = .returned (.tuple #[.slice LA' zl'.length lc', .slice PA' zp'.length pc']) ∧
    vz zl' = vz zl ++ tl t ∧ vz zp' = vz zp ++ xt t ∧ Tel w' n₀ S (.slice LA' zl'.length lc') (.slice PA' zp'.length pc') zl' zp' ∧ Grow w (.slice LA zl.length lc) (.slice PA zp.length pc) w' (.slice LA' zl'.length lc') (.slice PA' zp'.length pc')

set_option maxRecDepth 100000 in
set_option maxHeartbeats 4000000 in
theorem told30_any : ∀ (N : Nat) (t : RT), rsize t < N → TellC t := by
  intro N
  induction N with
  | zero => intro t h; omega
  | succ N ih =>
    intro t hN v w n₀ S LA lc PA pc zl zp hS hn hv hT hll hpl
    obtain ⟨n, r, k, AA, an, ac, TA, tn, tc, A, m, c, at_, tx, ks, rfl, rfl, ha, hp, hks⟩ := hv.parts
    have hX0 := BoxN.made w #[.int .i64 n, .int .i64 r, .string k, .slice AA an ac, .slice TA tn tc, .slice A m c] 31
    have hB0 : Below w.heap.size w (w.alloc (.cells #[.int .i64 n, .int .i64 r, .string k, .slice AA an ac, .slice TA tn tc, .slice A m c] 31)) := blAl _
    have hT0 := hT.below hB0
    have han := ha.len
    have hks2 : m ≤ 9223372036854775807 := by obtain ⟨zz, _, hz⟩ := hks; exact Nat.le_trans hz.cap hz.max
    have han2 : an ≤ 9223372036854775807 := Nat.le_trans ha.cap ha.max
    rw [tl, List.length_append] at hll
    rw [xt, List.length_append] at hpl
    have HIH := Lib.hid ih
    have HSZ : Hid (rsizeL ks < N) := Lib.hid (by rw [rsize] at hN; omega)
    have HS := Lib.hid hS
    have HN := Lib.hid hn
    have HA := Lib.hid ha
    have HP := Lib.hid hp
    have HK := Lib.hid hks
    have HKL := Lib.hid hks.length
    have HX0 := Lib.hid hX0
    have HB0 := Lib.hid hB0
    have HT0 := Lib.hid hT0
    have HT := Lib.hid hT
    have HLL := Lib.hid hll
    have HPL0 := Lib.hid hpl
    have HAN := Lib.hid han
    clear ih hN hS hn hv hT ha hp hks hX0 hB0 hT0 hll hpl han
    have HTL0 : Hid (tl (.node n r k at_ tx ks) = (if n = 0 ∧ r = 0 ∧ at_.length = 0 then [] else [.node n r k at_ [] []]) ++ tlL ks) := Lib.hid (by rw [tl])
    by_cases hself : n = 0 ∧ r = 0 ∧ at_.length = 0
    · have hz : an = 0 := by rw [← HAN.out, hself.2.2]
      have g1 : (n != 0) = false := by rw [hself.1]; rfl
      have g2 : (n == 0) = true := by rw [hself.1]; rfl
      have g3 : (r != 0) = false := by rw [hself.2.1]; rfl
      have g4 : (r == 0) = true := by rw [hself.2.1]; rfl
      have g5 : decide ((0 : Int) < (an : Int)) = false := by rw [hz]; rfl
      have g6 : ¬ (0 : Int) < (an : Int) := by omega
      obtain ⟨sl, hsl⟩ : ∃ sl : List RT, sl = [] := ⟨_, rfl⟩
      have HTL : Hid (tl (.node n r k at_ tx ks) = sl ++ tlL ks) := Lib.hid (by rw [HTL0.out, hsl, if_pos hself])
      have HLL2 : Hid (zl.length + (sl.length + (tlL ks).length) ≤ 900000) := Lib.hid (by have := HLL.out; rw [if_pos hself] at this; rw [hsl]; exact this)
      have HV1 : Hid (vz zl = vz zl ++ sl) := Lib.hid (by rw [hsl, List.append_nil])
      have HT1 := HT0
      have HG1 := Lib.hid (Grow.refl (w.alloc (.cells #[.int .i64 n, .int .i64 r, .string k, .slice AA an ac, .slice TA tn tc, .slice A m c] 31)) (.slice LA zl.length lc) (.slice PA zp.length pc))
      have HBW : Hid (Below n₀ w (w.alloc (.cells #[.int .i64 n, .int .i64 r, .string k, .slice AA an ac, .slice TA tn tc, .slice A m c] 31))) := Lib.hid (HB0.out.mono HN.out)
      clear hsl HTL0 HLL hself hz
      go_enter Try.func30, Try.ntmps30
      obtain ⟨zx, hzx, hZX⟩ : ∃ zx : List (Z Pce 2), vz zx = tx ∧ RdZ 2 (PcR (only (w.alloc (.cells #[.int .i64 n, .int .i64 r, .string k, .slice AA an ac, .slice TA tn tc, .slice A m c] 31)) S) (w.alloc (.cells #[.int .i64 n, .int .i64 r, .string k, .slice AA an ac, .slice TA tn tc, .slice A m c] 31)).heap.size) (only (w.alloc (.cells #[.int .i64 n, .int .i64 r, .string k, .slice AA an ac, .slice TA tn tc, .slice A m c] 31)) S) (w.alloc (.cells #[.int .i64 n, .int .i64 r, .string k, .slice AA an ac, .slice TA tn tc, .slice A m c] 31)).heap.size TA tn tc zx := HP.out.stay (.beneath HBW.out (fun b _ h => HS.out b h) fun _ _ h => h)
      have hX9 : BoxN (w.alloc (.cells #[.int .i64 n, .int .i64 r, .string k, .slice AA an ac, .slice TA tn tc, .slice A m c] 31)) w.heap.size #[.int .i64 n, .int .i64 r, .string k, .slice AA an ac, .slice TA tn tc, .slice A m c] 31 := (HG1.out.block _ HX0.out.lt (fun e => by have := (HT.out.l.lt _ e).2; omega) (fun e => by have := (HT.out.p.lt _ e).2; omega)).trans HX0.out
      have x94 : (w.alloc (.cells #[.int .i64 n, .int .i64 r, .string k, .slice AA an ac, .slice TA tn tc, .slice A m c] 31)).cell? ⟨w.heap.size, 4, none⟩ = some (.slice TA tn tc) := hX9.cell (j := 4) rfl
      clear hX9
      have hzxl := hZX.len
      have hxl : zx.length = tx.length := by rw [← hzx, vz_len]
      have HPL : Hid (zp.length + tn ≤ 3000000) := Lib.hid (by have := HPL0.out; omega)
      have HZX := Lib.hid hZX
      have HVX := Lib.hid hzx
      have hnw : n₀ ≤ (w.alloc (.cells #[.int .i64 n, .int .i64 r, .string k, .slice AA an ac, .slice TA tn tc, .slice A m c] 31)).heap.size := Nat.le_trans HN.out HBW.out.size
      have HNW := Lib.hid hnw
      have HZXL := Lib.hid hzxl
      clear hZX hzx hxl hnw hzxl
      go_wp2_with (at_builtin; refine wpList_app_at (w.alloc (.cells #[.int .i64 n, .int .i64 r, .string k, .slice AA an ac, .slice TA tn tc, .slice A m c] 31)) rfl (.tmp 29) (.tmp 31) 28 rfl n₀ 55 zPiece 2 40 Try.underlying28 info55 rfl (by decide) (.slice PA zp.length pc) zp.length (cz zp) rfl HT1.out.p (w.alloc (.cells #[.int .i64 n, .int .i64 r, .string k, .slice AA an ac, .slice TA tn tc, .slice A m c] 31)).heap.size TA tn tc (cz zx) rfl HZX.out.row.bare (pcs_one HZX.out.all) (by have := HPL.out; unfold maxLen; omega) (by have := HPL.out; omega) HNW.out ?_)
      intro PB pb w3 h1 h2 h3
      rw [← HZXL.out] at h1 h3
      obtain ⟨ht3, hg3⟩ := HT1.out.appP HNW.out HS.out HZX.out.all h1 h2 (fun g e => (h3 g e).imp id fun q => by first | exact q | (simp only [World.size_alloc]; exact q))
      have HT3 : Hid (Tel w3 n₀ S (.slice LA zl.length lc) (.slice PB (zp ++ zx).length pb) zl (zp ++ zx)) := Lib.hid (by rw [List.length_append]; exact ht3)
      have HG3 : Hid (Grow (w.alloc (.cells #[.int .i64 n, .int .i64 r, .string k, .slice AA an ac, .slice TA tn tc, .slice A m c] 31)) (.slice LA zl.length lc) (.slice PA zp.length pc) w3 (.slice LA zl.length lc) (.slice PB (zp ++ zx).length pb)) := Lib.hid (by rw [List.length_append]; exact HG1.out.trans hg3)
      have HVP : Hid (vz (zp ++ zx) = vz zp ++ tx) := Lib.hid (by rw [vz_append, HVX.out])
      clear h1 h2 h3 ht3 hg3 HT1 HG1 HBW HNW HZX
      have hzl : zp.length + tn = (zp ++ zx).length := by rw [List.length_append, HZXL.out]
      rw [hzl]
      clear hzl HZXL
      generalize hzpe : zp ++ zx = zq at *
      go_wp2_with fail
      go_loopw [1, 2, 8] (fun s1 s2 s8 wr => ∃ (i : Nat) (zl' : List (Z RT 6)) (zp' : List (Z Pce 2)) (LB : Option Addr) (lb : Nat) (PC : Option Addr) (pb : Nat), s8 = .int .i64 i ∧ i ≤ m ∧ s1 = .slice LB zl'.length lb ∧ s2 = .slice PC zp'.length pb ∧ Hid (vz zl' = vz zl ++ sl ++ tlL (ks.take i)) ∧ Hid (vz zp' = vz zp ++ tx ++ xtL (ks.take i)) ∧ Hid (Tel wr n₀ S (.slice LB zl'.length lb) (.slice PC zp'.length pb) zl' zp') ∧ Hid (Grow (w.alloc (.cells #[.int .i64 n, .int .i64 r, .string k, .slice AA an ac, .slice TA tn tc, .slice A m c] 31)) (.slice LA zl.length lc) (.slice PA zp.length pc) wr (.slice LB zl'.length lb) (.slice PC zp'.length pb))) (fun _ _ s8 _ => m - (intOf s8).toNat)
      case atStart => exact ⟨0, zl, zq, LA, lc, PB, pb, rfl, Nat.zero_le _, rfl, rfl, Lib.hid (HV1.out.trans (by simp [tlL])), Lib.hid (HVP.out.trans (by simp [xtL])), HT3, HG3⟩
      case round =>
        clear HT3 HG3
        obtain ⟨i, zl', zp', LB, lb, PC, pb', rfl, him, rfl, rfl, HVL, HVQ, HTR, HGR⟩ := hrel
        have hBr : Below n₀ (w.alloc (.cells #[.int .i64 n, .int .i64 r, .string k, .slice AA an ac, .slice TA tn tc, .slice A m c] 31)) wr := HGR.out.below HT0.out (Nat.le_trans HN.out HB0.out.size)
        have hBw : Below n₀ w wr := (HB0.out.mono HN.out).trans hBr
        have hXr : BoxN wr w.heap.size #[.int .i64 n, .int .i64 r, .string k, .slice AA an ac, .slice TA tn tc, .slice A m c] 31 := (HGR.out.block _ HX0.out.lt (fun e => by have := (HT.out.l.lt _ e).2; omega) (fun e => by have := (HT.out.p.lt _ e).2; omega)).trans HX0.out
        have x5 : wr.cell? ⟨w.heap.size, 5, none⟩ = some (.slice A m c) := hXr.cell (j := 5) rfl
        by_cases hlt : i < m
        · obtain ⟨b, off, x, u0, u1, u2, u3, u3n, u3c, u4, u4n, u4c, u5, u5n, u5c, rfl, hx, hb, hSb, hxk, hxn, c0, c1, c2, c3, c4, c5⟩ := (HK.out.stay (.beneath hBw (fun b _ h => HS.out b h) fun _ _ h => h) : RdF wr S A m c ks).nodeAt hlt
          have ik : (i : Int) < (m : Int) := by omega
          have ik0 : (0 : Int) ≤ (i : Int) := by omega
          have hmem := rsize_mem (List.mem_of_getElem? hx)
          have e1 := tlL_take hx
          have e2 := tlL_le ks (i + 1)
          have e3 := xtL_take hx
          have e4 := xtL_le ks (i + 1)
          have e5 := congrArg List.length HVL.out
          have e6 := congrArg List.length HVQ.out
          rw [e1, List.length_append] at e2
          rw [e3, List.length_append] at e4
          simp only [List.length_append, vz_len] at e5 e6
          have hl1 : zl'.length + (tl x).length ≤ 900000 := by have := HLL2.out; omega
          have hl2 : zp'.length + (xt x).length ≤ 3000000 := by have := HPL0.out; omega
          have HC := Lib.hid (HIH.out x (by have := HSZ.out; omega) _ wr n₀ S LB lb PC pb' zl' zp' HS.out (Nat.le_trans HN.out hBw.size) hxn HTR.out hl1 hl2)
          have HX := Lib.hid hx
          clear hx hSb hb hxk hxn hmem hXr hBr hBw e1 e2 e3 e4 e5 e6 hl1 hl2
          go_wp2_with fail
          refine HC.out.mono ?_
          rintro e w5 ⟨LB', lb', PC', pb2, zl2, zp2, rfl, hv1, hv2, hT5, hG5⟩
          have HT5 := Lib.hid hT5
          have HG5 := Lib.hid (HGR.out.trans hG5)
          have HV1' := Lib.hid hv1
          have HV2' := Lib.hid hv2
          clear hT5 hG5 hv1 hv2 HC x5 c0 c1 c2 c3 c4 c5
          go_wp2_with fail
          go_roundw
          case rel => exact ⟨i + 1, zl2, zp2, LB', lb', PC', pb2, by go_num, by omega, rfl, rfl, Lib.hid (by rw [HV1'.out, HVL.out, tlL_take HX.out]; simp), Lib.hid (by rw [HV2'.out, HVQ.out, xtL_take HX.out]; simp), HT5, HG5⟩
          case measure => simp [intOf]; omega
        · obtain rfl : i = m := by omega
          have HF1 : Hid (vz zl' = vz zl ++ (sl ++ tlL ks)) := Lib.hid (by rw [HVL.out, List.take_of_length_le (by rw [HKL.out]; exact Nat.le_refl _)]; simp)
          have HF2 : Hid (vz zp' = vz zp ++ (tx ++ xtL ks)) := Lib.hid (by rw [HVQ.out, List.take_of_length_le (by rw [HKL.out]; exact Nat.le_refl _)]; simp)
          clear hXr hBr hBw
          go_wp2_with fail
          go_ret2
          exact ⟨LB, lb, PC, pb', zl', zp', rfl, by rw [HF1.out, HTL.out], by rw [HF2.out, xt], HTR.out, (Grow.of_below HB0.out _ _).trans HGR.out⟩
    · obtain ⟨sl, hsl⟩ : ∃ sl : List RT, sl = [.node n r k at_ [] []] := ⟨_, rfl⟩
      have HTL : Hid (tl (.node n r k at_ tx ks) = sl ++ tlL ks) := Lib.hid (by rw [HTL0.out, hsl, if_neg hself])
      have HLL2 : Hid (zl.length + (sl.length + (tlL ks).length) ≤ 900000) := Lib.hid (by have := HLL.out; rw [if_neg hself] at this; rw [hsl]; exact this)
      have hba : Below (w.alloc (.cells #[.int .i64 n, .int .i64 r, .string k, .slice AA an ac, .slice TA tn tc, .slice A m c] 31)).heap.size (w.alloc (.cells #[.int .i64 n, .int .i64 r, .string k, .slice AA an ac, .slice TA tn tc, .slice A m c] 31)) ((w.alloc (.cells #[.int .i64 n, .int .i64 r, .string k, .slice AA an ac, .slice TA tn tc, .slice A m c] 31)).alloc (.cells #[.int .i64 n, .int .i64 r, .string k, .slice AA an ac, .slice none 0 0, .slice none 0 0] 31)) := blAl _
      have hT1 := HT0.out.below hba
      have hBw1 : Below n₀ w ((w.alloc (.cells #[.int .i64 n, .int .i64 r, .string k, .slice AA an ac, .slice TA tn tc, .slice A m c] 31)).alloc (.cells #[.int .i64 n, .int .i64 r, .string k, .slice AA an ac, .slice none 0 0, .slice none 0 0] 31)) := (HB0.out.mono HN.out).trans (hba.mono (Nat.le_trans HN.out HB0.out.size))
      have hnd : NdF ((w.alloc (.cells #[.int .i64 n, .int .i64 r, .string k, .slice AA an ac, .slice TA tn tc, .slice A m c] 31)).alloc (.cells #[.int .i64 n, .int .i64 r, .string k, .slice AA an ac, .slice none 0 0, .slice none 0 0] 31)) S (#[.int .i64 n, .int .i64 r, .string k, .slice AA an ac, .slice none 0 0, .slice none 0 0] : Array Value).toList (.node n r k at_ [] []) := NdF.node (HA.out.stay (.beneath hBw1 (fun b _ h => HS.out b h) fun _ _ h => h)) (RdP.nil _ _) (RdF.nil _ _)
      have hrow : Rd ((w.alloc (.cells #[.int .i64 n, .int .i64 r, .string k, .slice AA an ac, .slice TA tn tc, .slice A m c] 31)).alloc (.cells #[.int .i64 n, .int .i64 r, .string k, .slice AA an ac, .slice none 0 0, .slice none 0 0] 31)) ((w.alloc (.cells #[.int .i64 n, .int .i64 r, .string k, .slice AA an ac, .slice TA tn tc, .slice A m c] 31)).heap.size + 1) 6 (some ⟨w.heap.size + 1, 0, none⟩) 1 (#[.int .i64 n, .int .i64 r, .string k, .slice AA an ac, .slice none 0 0, .slice none 0 0] : Array Value).toList := by
        have := (BoxN.made (w.alloc (.cells #[.int .i64 n, .int .i64 r, .string k, .slice AA an ac, .slice TA tn tc, .slice A m c] 31)) #[.int .i64 n, .int .i64 r, .string k, .slice AA an ac, .slice none 0 0, .slice none 0 0] 31).rd6 rfl
        rw [World.size_alloc] at this ⊢
        exact this
      have hG0 := Grow.of_below hba (.slice LA zl.length lc) (.slice PA zp.length pc)
      have hones : ∀ x ∈ (#[.int .i64 n, .int .i64 r, .string k, .slice AA an ac, .slice none 0 0, .slice none 0 0] : Array Value).toList, x.oneCell' = true := by
        intro x hx
        simp at hx
        rcases hx with rfl | rfl | rfl | rfl | rfl <;> rfl
      have hnw1 : n₀ ≤ ((w.alloc (.cells #[.int .i64 n, .int .i64 r, .string k, .slice AA an ac, .slice TA tn tc, .slice A m c] 31)).alloc (.cells #[.int .i64 n, .int .i64 r, .string k, .slice AA an ac, .slice none 0 0, .slice none 0 0] 31)).heap.size := Nat.le_trans HN.out hBw1.size
      have HTA := Lib.hid hT1
      have HBA := Lib.hid hBw1
      have HND := Lib.hid hnd
      have HRA := Lib.hid hrow
      have HG0 := Lib.hid hG0
      have HON := Lib.hid hones
      have HNA := Lib.hid hnw1
      have HL1 : Hid (zl.length + 1 ≤ 900000) := Lib.hid (by have := HLL2.out; rw [hsl] at this; simp at this; omega)
      have HSL := Lib.hid hsl
      clear hsl HTL0 HLL hba hT1 hBw1 hnd hrow hG0 hones hnw1
      have hlaw : ∀ (K : Exit → Act → World → Prop), True := fun _ => trivial
      by_cases hid : n = 0
      · by_cases hir : r = 0
        · have hap : ¬ an = 0 := fun e => hself ⟨hid, hir, by rw [HAN.out, e]⟩
          have g1 : (n != 0) = false := by rw [hid]; rfl
          have g2 : (n == 0) = true := by rw [hid]; rfl
          have g3 : (r != 0) = false := by rw [hir]; rfl
          have g4 : (r == 0) = true := by rw [hir]; rfl
          have g5 : (0 : Int) < (an : Int) := by omega
          clear hap hid hir hself
          go_enter Try.func30, Try.ntmps30
          go_wp2_with (at_builtin; refine wpList_app_at ((w.alloc (.cells #[.int .i64 n, .int .i64 r, .string k, .slice AA an ac, .slice TA tn tc, .slice A m c] 31)).alloc (.cells #[.int .i64 n, .int .i64 r, .string k, .slice AA an ac, .slice none 0 0, .slice none 0 0] 31)) rfl (.tmp 19) (.tmp 27) 29 rfl n₀ 31 zNode 6 104 Try.underlying29 info31 rfl (by decide) (.slice LA zl.length lc) zl.length (cz zl) rfl HTA.out.l ((w.alloc (.cells #[.int .i64 n, .int .i64 r, .string k, .slice AA an ac, .slice TA tn tc, .slice A m c] 31)).heap.size + 1) (some ⟨w.heap.size + 1, 0, none⟩) 1 1 (#[.int .i64 n, .int .i64 r, .string k, .slice AA an ac, .slice none 0 0, .slice none 0 0] : Array Value).toList rfl HRA.out HON.out (by have := HL1.out; unfold maxLen; omega) (by have := HL1.out; omega) HNA.out ?_)
          intro LC lc1 w1 h1 h2 h3
          have hcz1 : cz [(⟨((#[.int .i64 n, .int .i64 r, .string k, .slice AA an ac, .slice none 0 0, .slice none 0 0] : Array Value).toList, .node n r k at_ [] []), rfl⟩ : Z RT 6)] = (#[.int .i64 n, .int .i64 r, .string k, .slice AA an ac, .slice none 0 0, .slice none 0 0] : Array Value).toList := by simp [cz]
          obtain ⟨ht1, hg1⟩ := HTA.out.appL (zl' := [⟨((#[.int .i64 n, .int .i64 r, .string k, .slice AA an ac, .slice none 0 0, .slice none 0 0] : Array Value).toList, .node n r k at_ [] []), rfl⟩]) HNA.out HS.out (fun z hz => by
            obtain rfl : z = ⟨((#[.int .i64 n, .int .i64 r, .string k, .slice AA an ac, .slice none 0 0, .slice none 0 0] : Array Value).toList, .node n r k at_ [] []), rfl⟩ := by simpa using hz
            exact HND.out) (by rw [hcz1]; exact h1) h2 (fun g e => (h3 g e).imp id fun q => by first | exact q | (simp only [World.size_alloc]; exact q))
          have HV1 : Hid (vz (zl ++ [(⟨((#[.int .i64 n, .int .i64 r, .string k, .slice AA an ac, .slice none 0 0, .slice none 0 0] : Array Value).toList, .node n r k at_ [] []), rfl⟩ : Z RT 6)]) = vz zl ++ sl) := Lib.hid (by rw [vz_append, HSL.out]; rfl)
          have HBW : Hid (Below n₀ w w1) := Lib.hid (HBA.out.trans (hg1.below HTA.out HNA.out))
          have HG1 := Lib.hid (HG0.out.trans hg1)
          have HT1 := Lib.hid ht1
          clear h1 h2 h3 ht1 hg1
          have hle : (zl ++ [(⟨((#[.int .i64 n, .int .i64 r, .string k, .slice AA an ac, .slice none 0 0, .slice none 0 0] : Array Value).toList, .node n r k at_ [] []), rfl⟩ : Z RT 6)]).length = zl.length + 1 := by simp
          generalize (zl ++ [(⟨((#[.int .i64 n, .int .i64 r, .string k, .slice AA an ac, .slice none 0 0, .slice none 0 0] : Array Value).toList, .node n r k at_ [] []), rfl⟩ : Z RT 6)]) = zl1 at *
          have HLE := Lib.hid hle
          clear hle
          obtain ⟨zx, hzx, hZX⟩ : ∃ zx : List (Z Pce 2), vz zx = tx ∧ RdZ 2 (PcR (only w1 S) w1.heap.size) (only w1 S) w1.heap.size TA tn tc zx := HP.out.stay (.beneath HBW.out (fun b _ h => HS.out b h) fun _ _ h => h)
          have hX9 : BoxN w1 w.heap.size #[.int .i64 n, .int .i64 r, .string k, .slice AA an ac, .slice TA tn tc, .slice A m c] 31 := (HG1.out.block _ HX0.out.lt (fun e => by have := (HT.out.l.lt _ e).2; omega) (fun e => by have := (HT.out.p.lt _ e).2; omega)).trans HX0.out
          have x94 : w1.cell? ⟨w.heap.size, 4, none⟩ = some (.slice TA tn tc) := hX9.cell (j := 4) rfl
          clear hX9
          have hzxl := hZX.len
          have hxl : zx.length = tx.length := by rw [← hzx, vz_len]
          have HPL : Hid (zp.length + tn ≤ 3000000) := Lib.hid (by have := HPL0.out; omega)
          have HZX := Lib.hid hZX
          have HVX := Lib.hid hzx
          have hnw : n₀ ≤ w1.heap.size := Nat.le_trans HN.out HBW.out.size
          have HNW := Lib.hid hnw
          have HZXL := Lib.hid hzxl
          clear hZX hzx hxl hnw hzxl
          go_wp2_with (at_builtin; refine wpList_app_at w1 rfl (.tmp 29) (.tmp 31) 28 rfl n₀ 55 zPiece 2 40 Try.underlying28 info55 rfl (by decide) (.slice PA zp.length pc) zp.length (cz zp) rfl HT1.out.p w1.heap.size TA tn tc (cz zx) rfl HZX.out.row.bare (pcs_one HZX.out.all) (by have := HPL.out; unfold maxLen; omega) (by have := HPL.out; omega) HNW.out ?_)
          intro PB pb w3 h1 h2 h3
          rw [← HZXL.out] at h1 h3
          obtain ⟨ht3, hg3⟩ := HT1.out.appP HNW.out HS.out HZX.out.all h1 h2 (fun g e => (h3 g e).imp id fun q => by first | exact q | (simp only [World.size_alloc]; exact q))
          have HT3 : Hid (Tel w3 n₀ S (.slice LC (zl.length + 1) lc1) (.slice PB (zp ++ zx).length pb) zl1 (zp ++ zx)) := Lib.hid (by rw [List.length_append]; exact ht3)
          have HG3 : Hid (Grow (w.alloc (.cells #[.int .i64 n, .int .i64 r, .string k, .slice AA an ac, .slice TA tn tc, .slice A m c] 31)) (.slice LA zl.length lc) (.slice PA zp.length pc) w3 (.slice LC (zl.length + 1) lc1) (.slice PB (zp ++ zx).length pb)) := Lib.hid (by rw [List.length_append]; exact HG1.out.trans hg3)
          have HVP : Hid (vz (zp ++ zx) = vz zp ++ tx) := Lib.hid (by rw [vz_append, HVX.out])
          clear h1 h2 h3 ht3 hg3 HT1 HG1 HBW HNW HZX
          have hzl : zp.length + tn = (zp ++ zx).length := by rw [List.length_append, HZXL.out]
          rw [hzl]
          clear hzl HZXL
          generalize hzpe : zp ++ zx = zq at *
          go_wp2_with fail
          go_loopw [1, 2, 8] (fun s1 s2 s8 wr => ∃ (i : Nat) (zl' : List (Z RT 6)) (zp' : List (Z Pce 2)) (LB : Option Addr) (lb : Nat) (PC : Option Addr) (pb : Nat), s8 = .int .i64 i ∧ i ≤ m ∧ s1 = .slice LB zl'.length lb ∧ s2 = .slice PC zp'.length pb ∧ Hid (vz zl' = vz zl ++ sl ++ tlL (ks.take i)) ∧ Hid (vz zp' = vz zp ++ tx ++ xtL (ks.take i)) ∧ Hid (Tel wr n₀ S (.slice LB zl'.length lb) (.slice PC zp'.length pb) zl' zp') ∧ Hid (Grow (w.alloc (.cells #[.int .i64 n, .int .i64 r, .string k, .slice AA an ac, .slice TA tn tc, .slice A m c] 31)) (.slice LA zl.length lc) (.slice PA zp.length pc) wr (.slice LB zl'.length lb) (.slice PC zp'.length pb))) (fun _ _ s8 _ => m - (intOf s8).toNat)
          case atStart => exact ⟨0, zl1, zq, LC, lc1, PB, pb, rfl, Nat.zero_le _, by rw [HLE.out], rfl, Lib.hid (HV1.out.trans (by simp [tlL])), Lib.hid (HVP.out.trans (by simp [xtL])), by rw [HLE.out]; exact HT3, by rw [HLE.out]; exact HG3⟩
          case round =>
            clear HT3 HG3
            obtain ⟨i, zl', zp', LB, lb, PC, pb', rfl, him, rfl, rfl, HVL, HVQ, HTR, HGR⟩ := hrel
            have hBr : Below n₀ (w.alloc (.cells #[.int .i64 n, .int .i64 r, .string k, .slice AA an ac, .slice TA tn tc, .slice A m c] 31)) wr := HGR.out.below HT0.out (Nat.le_trans HN.out HB0.out.size)
            have hBw : Below n₀ w wr := (HB0.out.mono HN.out).trans hBr
            have hXr : BoxN wr w.heap.size #[.int .i64 n, .int .i64 r, .string k, .slice AA an ac, .slice TA tn tc, .slice A m c] 31 := (HGR.out.block _ HX0.out.lt (fun e => by have := (HT.out.l.lt _ e).2; omega) (fun e => by have := (HT.out.p.lt _ e).2; omega)).trans HX0.out
            have x5 : wr.cell? ⟨w.heap.size, 5, none⟩ = some (.slice A m c) := hXr.cell (j := 5) rfl
            by_cases hlt : i < m
            · obtain ⟨b, off, x, u0, u1, u2, u3, u3n, u3c, u4, u4n, u4c, u5, u5n, u5c, rfl, hx, hb, hSb, hxk, hxn, c0, c1, c2, c3, c4, c5⟩ := (HK.out.stay (.beneath hBw (fun b _ h => HS.out b h) fun _ _ h => h) : RdF wr S A m c ks).nodeAt hlt
              have ik : (i : Int) < (m : Int) := by omega
              have ik0 : (0 : Int) ≤ (i : Int) := by omega
              have hmem := rsize_mem (List.mem_of_getElem? hx)
              have e1 := tlL_take hx
              have e2 := tlL_le ks (i + 1)
              have e3 := xtL_take hx
              have e4 := xtL_le ks (i + 1)
              have e5 := congrArg List.length HVL.out
              have e6 := congrArg List.length HVQ.out
              rw [e1, List.length_append] at e2
              rw [e3, List.length_append] at e4
              simp only [List.length_append, vz_len] at e5 e6
              have hl1 : zl'.length + (tl x).length ≤ 900000 := by have := HLL2.out; omega
              have hl2 : zp'.length + (xt x).length ≤ 3000000 := by have := HPL0.out; omega
              have HC := Lib.hid (HIH.out x (by have := HSZ.out; omega) _ wr n₀ S LB lb PC pb' zl' zp' HS.out (Nat.le_trans HN.out hBw.size) hxn HTR.out hl1 hl2)
              have HX := Lib.hid hx
              clear hx hSb hb hxk hxn hmem hXr hBr hBw e1 e2 e3 e4 e5 e6 hl1 hl2
              go_wp2_with fail
              refine HC.out.mono ?_
              rintro e w5 ⟨LB', lb', PC', pb2, zl2, zp2, rfl, hv1, hv2, hT5, hG5⟩
              have HT5 := Lib.hid hT5
              have HG5 := Lib.hid (HGR.out.trans hG5)
              have HV1' := Lib.hid hv1
              have HV2' := Lib.hid hv2
              clear hT5 hG5 hv1 hv2 HC x5 c0 c1 c2 c3 c4 c5
              go_wp2_with fail
              go_roundw
              case rel => exact ⟨i + 1, zl2, zp2, LB', lb', PC', pb2, by go_num, by omega, rfl, rfl, Lib.hid (by rw [HV1'.out, HVL.out, tlL_take HX.out]; simp), Lib.hid (by rw [HV2'.out, HVQ.out, xtL_take HX.out]; simp), HT5, HG5⟩
              case measure => simp [intOf]; omega
            · obtain rfl : i = m := by omega
              have HF1 : Hid (vz zl' = vz zl ++ (sl ++ tlL ks)) := Lib.hid (by rw [HVL.out, List.take_of_length_le (by rw [HKL.out]; exact Nat.le_refl _)]; simp)
              have HF2 : Hid (vz zp' = vz zp ++ (tx ++ xtL ks)) := Lib.hid (by rw [HVQ.out, List.take_of_length_le (by rw [HKL.out]; exact Nat.le_refl _)]; simp)
              clear hXr hBr hBw
              go_wp2_with fail
              go_ret2
              exact ⟨LB, lb, PC, pb', zl', zp', rfl, by rw [HF1.out, HTL.out], by rw [HF2.out, xt], HTR.out, (Grow.of_below HB0.out _ _).trans HGR.out⟩
        · have g0 : (n != 0) = false := by rw [hid]; rfl
          have g00 : (n == 0) = true := by rw [hid]; rfl
          have g1 : (r != 0) = true := by simpa using hir
          have g2 : (r == 0) = false := by simpa using hir
          clear hid hir hself
          go_enter Try.func30, Try.ntmps30
          go_wp2_with (at_builtin; refine wpList_app_at ((w.alloc (.cells #[.int .i64 n, .int .i64 r, .string k, .slice AA an ac, .slice TA tn tc, .slice A m c] 31)).alloc (.cells #[.int .i64 n, .int .i64 r, .string k, .slice AA an ac, .slice none 0 0, .slice none 0 0] 31)) rfl (.tmp 19) (.tmp 27) 29 rfl n₀ 31 zNode 6 104 Try.underlying29 info31 rfl (by decide) (.slice LA zl.length lc) zl.length (cz zl) rfl HTA.out.l ((w.alloc (.cells #[.int .i64 n, .int .i64 r, .string k, .slice AA an ac, .slice TA tn tc, .slice A m c] 31)).heap.size + 1) (some ⟨w.heap.size + 1, 0, none⟩) 1 1 (#[.int .i64 n, .int .i64 r, .string k, .slice AA an ac, .slice none 0 0, .slice none 0 0] : Array Value).toList rfl HRA.out HON.out (by have := HL1.out; unfold maxLen; omega) (by have := HL1.out; omega) HNA.out ?_)
          intro LC lc1 w1 h1 h2 h3
          have hcz1 : cz [(⟨((#[.int .i64 n, .int .i64 r, .string k, .slice AA an ac, .slice none 0 0, .slice none 0 0] : Array Value).toList, .node n r k at_ [] []), rfl⟩ : Z RT 6)] = (#[.int .i64 n, .int .i64 r, .string k, .slice AA an ac, .slice none 0 0, .slice none 0 0] : Array Value).toList := by simp [cz]
          obtain ⟨ht1, hg1⟩ := HTA.out.appL (zl' := [⟨((#[.int .i64 n, .int .i64 r, .string k, .slice AA an ac, .slice none 0 0, .slice none 0 0] : Array Value).toList, .node n r k at_ [] []), rfl⟩]) HNA.out HS.out (fun z hz => by
            obtain rfl : z = ⟨((#[.int .i64 n, .int .i64 r, .string k, .slice AA an ac, .slice none 0 0, .slice none 0 0] : Array Value).toList, .node n r k at_ [] []), rfl⟩ := by simpa using hz
            exact HND.out) (by rw [hcz1]; exact h1) h2 (fun g e => (h3 g e).imp id fun q => by first | exact q | (simp only [World.size_alloc]; exact q))
          have HV1 : Hid (vz (zl ++ [(⟨((#[.int .i64 n, .int .i64 r, .string k, .slice AA an ac, .slice none 0 0, .slice none 0 0] : Array Value).toList, .node n r k at_ [] []), rfl⟩ : Z RT 6)]) = vz zl ++ sl) := Lib.hid (by rw [vz_append, HSL.out]; rfl)
          have HBW : Hid (Below n₀ w w1) := Lib.hid (HBA.out.trans (hg1.below HTA.out HNA.out))
          have HG1 := Lib.hid (HG0.out.trans hg1)
          have HT1 := Lib.hid ht1
          clear h1 h2 h3 ht1 hg1
          have hle : (zl ++ [(⟨((#[.int .i64 n, .int .i64 r, .string k, .slice AA an ac, .slice none 0 0, .slice none 0 0] : Array Value).toList, .node n r k at_ [] []), rfl⟩ : Z RT 6)]).length = zl.length + 1 := by simp
          generalize (zl ++ [(⟨((#[.int .i64 n, .int .i64 r, .string k, .slice AA an ac, .slice none 0 0, .slice none 0 0] : Array Value).toList, .node n r k at_ [] []), rfl⟩ : Z RT 6)]) = zl1 at *
          have HLE := Lib.hid hle
          clear hle
          obtain ⟨zx, hzx, hZX⟩ : ∃ zx : List (Z Pce 2), vz zx = tx ∧ RdZ 2 (PcR (only w1 S) w1.heap.size) (only w1 S) w1.heap.size TA tn tc zx := HP.out.stay (.beneath HBW.out (fun b _ h => HS.out b h) fun _ _ h => h)
          have hX9 : BoxN w1 w.heap.size #[.int .i64 n, .int .i64 r, .string k, .slice AA an ac, .slice TA tn tc, .slice A m c] 31 := (HG1.out.block _ HX0.out.lt (fun e => by have := (HT.out.l.lt _ e).2; omega) (fun e => by have := (HT.out.p.lt _ e).2; omega)).trans HX0.out
          have x94 : w1.cell? ⟨w.heap.size, 4, none⟩ = some (.slice TA tn tc) := hX9.cell (j := 4) rfl
          clear hX9
          have hzxl := hZX.len
          have hxl : zx.length = tx.length := by rw [← hzx, vz_len]
          have HPL : Hid (zp.length + tn ≤ 3000000) := Lib.hid (by have := HPL0.out; omega)
          have HZX := Lib.hid hZX
          have HVX := Lib.hid hzx
          have hnw : n₀ ≤ w1.heap.size := Nat.le_trans HN.out HBW.out.size
          have HNW := Lib.hid hnw
          have HZXL := Lib.hid hzxl
          clear hZX hzx hxl hnw hzxl
          go_wp2_with (at_builtin; refine wpList_app_at w1 rfl (.tmp 29) (.tmp 31) 28 rfl n₀ 55 zPiece 2 40 Try.underlying28 info55 rfl (by decide) (.slice PA zp.length pc) zp.length (cz zp) rfl HT1.out.p w1.heap.size TA tn tc (cz zx) rfl HZX.out.row.bare (pcs_one HZX.out.all) (by have := HPL.out; unfold maxLen; omega) (by have := HPL.out; omega) HNW.out ?_)
          intro PB pb w3 h1 h2 h3
          rw [← HZXL.out] at h1 h3
          obtain ⟨ht3, hg3⟩ := HT1.out.appP HNW.out HS.out HZX.out.all h1 h2 (fun g e => (h3 g e).imp id fun q => by first | exact q | (simp only [World.size_alloc]; exact q))
          have HT3 : Hid (Tel w3 n₀ S (.slice LC (zl.length + 1) lc1) (.slice PB (zp ++ zx).length pb) zl1 (zp ++ zx)) := Lib.hid (by rw [List.length_append]; exact ht3)
          have HG3 : Hid (Grow (w.alloc (.cells #[.int .i64 n, .int .i64 r, .string k, .slice AA an ac, .slice TA tn tc, .slice A m c] 31)) (.slice LA zl.length lc) (.slice PA zp.length pc) w3 (.slice LC (zl.length + 1) lc1) (.slice PB (zp ++ zx).length pb)) := Lib.hid (by rw [List.length_append]; exact HG1.out.trans hg3)
          have HVP : Hid (vz (zp ++ zx) = vz zp ++ tx) := Lib.hid (by rw [vz_append, HVX.out])
          clear h1 h2 h3 ht3 hg3 HT1 HG1 HBW HNW HZX
          have hzl : zp.length + tn = (zp ++ zx).length := by rw [List.length_append, HZXL.out]
          rw [hzl]
          clear hzl HZXL
          generalize hzpe : zp ++ zx = zq at *
          go_wp2_with fail
          go_loopw [1, 2, 8] (fun s1 s2 s8 wr => ∃ (i : Nat) (zl' : List (Z RT 6)) (zp' : List (Z Pce 2)) (LB : Option Addr) (lb : Nat) (PC : Option Addr) (pb : Nat), s8 = .int .i64 i ∧ i ≤ m ∧ s1 = .slice LB zl'.length lb ∧ s2 = .slice PC zp'.length pb ∧ Hid (vz zl' = vz zl ++ sl ++ tlL (ks.take i)) ∧ Hid (vz zp' = vz zp ++ tx ++ xtL (ks.take i)) ∧ Hid (Tel wr n₀ S (.slice LB zl'.length lb) (.slice PC zp'.length pb) zl' zp') ∧ Hid (Grow (w.alloc (.cells #[.int .i64 n, .int .i64 r, .string k, .slice AA an ac, .slice TA tn tc, .slice A m c] 31)) (.slice LA zl.length lc) (.slice PA zp.length pc) wr (.slice LB zl'.length lb) (.slice PC zp'.length pb))) (fun _ _ s8 _ => m - (intOf s8).toNat)
          case atStart => exact ⟨0, zl1, zq, LC, lc1, PB, pb, rfl, Nat.zero_le _, by rw [HLE.out], rfl, Lib.hid (HV1.out.trans (by simp [tlL])), Lib.hid (HVP.out.trans (by simp [xtL])), by rw [HLE.out]; exact HT3, by rw [HLE.out]; exact HG3⟩
          case round =>
            clear HT3 HG3
            obtain ⟨i, zl', zp', LB, lb, PC, pb', rfl, him, rfl, rfl, HVL, HVQ, HTR, HGR⟩ := hrel
            have hBr : Below n₀ (w.alloc (.cells #[.int .i64 n, .int .i64 r, .string k, .slice AA an ac, .slice TA tn tc, .slice A m c] 31)) wr := HGR.out.below HT0.out (Nat.le_trans HN.out HB0.out.size)
            have hBw : Below n₀ w wr := (HB0.out.mono HN.out).trans hBr
            have hXr : BoxN wr w.heap.size #[.int .i64 n, .int .i64 r, .string k, .slice AA an ac, .slice TA tn tc, .slice A m c] 31 := (HGR.out.block _ HX0.out.lt (fun e => by have := (HT.out.l.lt _ e).2; omega) (fun e => by have := (HT.out.p.lt _ e).2; omega)).trans HX0.out
            have x5 : wr.cell? ⟨w.heap.size, 5, none⟩ = some (.slice A m c) := hXr.cell (j := 5) rfl
            by_cases hlt : i < m
            · obtain ⟨b, off, x, u0, u1, u2, u3, u3n, u3c, u4, u4n, u4c, u5, u5n, u5c, rfl, hx, hb, hSb, hxk, hxn, c0, c1, c2, c3, c4, c5⟩ := (HK.out.stay (.beneath hBw (fun b _ h => HS.out b h) fun _ _ h => h) : RdF wr S A m c ks).nodeAt hlt
              have ik : (i : Int) < (m : Int) := by omega
              have ik0 : (0 : Int) ≤ (i : Int) := by omega
              have hmem := rsize_mem (List.mem_of_getElem? hx)
              have e1 := tlL_take hx
              have e2 := tlL_le ks (i + 1)
              have e3 := xtL_take hx
              have e4 := xtL_le ks (i + 1)
              have e5 := congrArg List.length HVL.out
              have e6 := congrArg List.length HVQ.out
              rw [e1, List.length_append] at e2
              rw [e3, List.length_append] at e4
              simp only [List.length_append, vz_len] at e5 e6
              have hl1 : zl'.length + (tl x).length ≤ 900000 := by have := HLL2.out; omega
              have hl2 : zp'.length + (xt x).length ≤ 3000000 := by have := HPL0.out; omega
              have HC := Lib.hid (HIH.out x (by have := HSZ.out; omega) _ wr n₀ S LB lb PC pb' zl' zp' HS.out (Nat.le_trans HN.out hBw.size) hxn HTR.out hl1 hl2)
              have HX := Lib.hid hx
              clear hx hSb hb hxk hxn hmem hXr hBr hBw e1 e2 e3 e4 e5 e6 hl1 hl2
              go_wp2_with fail
              refine HC.out.mono ?_
              rintro e w5 ⟨LB', lb', PC', pb2, zl2, zp2, rfl, hv1, hv2, hT5, hG5⟩
              have HT5 := Lib.hid hT5
              have HG5 := Lib.hid (HGR.out.trans hG5)
              have HV1' := Lib.hid hv1
              have HV2' := Lib.hid hv2
              clear hT5 hG5 hv1 hv2 HC x5 c0 c1 c2 c3 c4 c5
              go_wp2_with fail
              go_roundw
              case rel => exact ⟨i + 1, zl2, zp2, LB', lb', PC', pb2, by go_num, by omega, rfl, rfl, Lib.hid (by rw [HV1'.out, HVL.out, tlL_take HX.out]; simp), Lib.hid (by rw [HV2'.out, HVQ.out, xtL_take HX.out]; simp), HT5, HG5⟩
              case measure => simp [intOf]; omega
            · obtain rfl : i = m := by omega
              have HF1 : Hid (vz zl' = vz zl ++ (sl ++ tlL ks)) := Lib.hid (by rw [HVL.out, List.take_of_length_le (by rw [HKL.out]; exact Nat.le_refl _)]; simp)
              have HF2 : Hid (vz zp' = vz zp ++ (tx ++ xtL ks)) := Lib.hid (by rw [HVQ.out, List.take_of_length_le (by rw [HKL.out]; exact Nat.le_refl _)]; simp)
              clear hXr hBr hBw
              go_wp2_with fail
              go_ret2
              exact ⟨LB, lb, PC, pb', zl', zp', rfl, by rw [HF1.out, HTL.out], by rw [HF2.out, xt], HTR.out, (Grow.of_below HB0.out _ _).trans HGR.out⟩
      · have g1 : (n != 0) = true := by simpa using hid
        have g2 : (n == 0) = false := by simpa using hid
        clear hid hself
        go_enter Try.func30, Try.ntmps30
        go_wp2_with (at_builtin; refine wpList_app_at ((w.alloc (.cells #[.int .i64 n, .int .i64 r, .string k, .slice AA an ac, .slice TA tn tc, .slice A m c] 31)).alloc (.cells #[.int .i64 n, .int .i64 r, .string k, .slice AA an ac, .slice none 0 0, .slice none 0 0] 31)) rfl (.tmp 19) (.tmp 27) 29 rfl n₀ 31 zNode 6 104 Try.underlying29 info31 rfl (by decide) (.slice LA zl.length lc) zl.length (cz zl) rfl HTA.out.l ((w.alloc (.cells #[.int .i64 n, .int .i64 r, .string k, .slice AA an ac, .slice TA tn tc, .slice A m c] 31)).heap.size + 1) (some ⟨w.heap.size + 1, 0, none⟩) 1 1 (#[.int .i64 n, .int .i64 r, .string k, .slice AA an ac, .slice none 0 0, .slice none 0 0] : Array Value).toList rfl HRA.out HON.out (by have := HL1.out; unfold maxLen; omega) (by have := HL1.out; omega) HNA.out ?_)
        intro LC lc1 w1 h1 h2 h3
        have hcz1 : cz [(⟨((#[.int .i64 n, .int .i64 r, .string k, .slice AA an ac, .slice none 0 0, .slice none 0 0] : Array Value).toList, .node n r k at_ [] []), rfl⟩ : Z RT 6)] = (#[.int .i64 n, .int .i64 r, .string k, .slice AA an ac, .slice none 0 0, .slice none 0 0] : Array Value).toList := by simp [cz]
        obtain ⟨ht1, hg1⟩ := HTA.out.appL (zl' := [⟨((#[.int .i64 n, .int .i64 r, .string k, .slice AA an ac, .slice none 0 0, .slice none 0 0] : Array Value).toList, .node n r k at_ [] []), rfl⟩]) HNA.out HS.out (fun z hz => by
          obtain rfl : z = ⟨((#[.int .i64 n, .int .i64 r, .string k, .slice AA an ac, .slice none 0 0, .slice none 0 0] : Array Value).toList, .node n r k at_ [] []), rfl⟩ := by simpa using hz
          exact HND.out) (by rw [hcz1]; exact h1) h2 (fun g e => (h3 g e).imp id fun q => by first | exact q | (simp only [World.size_alloc]; exact q))
        have HV1 : Hid (vz (zl ++ [(⟨((#[.int .i64 n, .int .i64 r, .string k, .slice AA an ac, .slice none 0 0, .slice none 0 0] : Array Value).toList, .node n r k at_ [] []), rfl⟩ : Z RT 6)]) = vz zl ++ sl) := Lib.hid (by rw [vz_append, HSL.out]; rfl)
        have HBW : Hid (Below n₀ w w1) := Lib.hid (HBA.out.trans (hg1.below HTA.out HNA.out))
        have HG1 := Lib.hid (HG0.out.trans hg1)
        have HT1 := Lib.hid ht1
        clear h1 h2 h3 ht1 hg1
        have hle : (zl ++ [(⟨((#[.int .i64 n, .int .i64 r, .string k, .slice AA an ac, .slice none 0 0, .slice none 0 0] : Array Value).toList, .node n r k at_ [] []), rfl⟩ : Z RT 6)]).length = zl.length + 1 := by simp
        generalize (zl ++ [(⟨((#[.int .i64 n, .int .i64 r, .string k, .slice AA an ac, .slice none 0 0, .slice none 0 0] : Array Value).toList, .node n r k at_ [] []), rfl⟩ : Z RT 6)]) = zl1 at *
        have HLE := Lib.hid hle
        clear hle
        obtain ⟨zx, hzx, hZX⟩ : ∃ zx : List (Z Pce 2), vz zx = tx ∧ RdZ 2 (PcR (only w1 S) w1.heap.size) (only w1 S) w1.heap.size TA tn tc zx := HP.out.stay (.beneath HBW.out (fun b _ h => HS.out b h) fun _ _ h => h)
        have hX9 : BoxN w1 w.heap.size #[.int .i64 n, .int .i64 r, .string k, .slice AA an ac, .slice TA tn tc, .slice A m c] 31 := (HG1.out.block _ HX0.out.lt (fun e => by have := (HT.out.l.lt _ e).2; omega) (fun e => by have := (HT.out.p.lt _ e).2; omega)).trans HX0.out
        have x94 : w1.cell? ⟨w.heap.size, 4, none⟩ = some (.slice TA tn tc) := hX9.cell (j := 4) rfl
        clear hX9
        have hzxl := hZX.len
        have hxl : zx.length = tx.length := by rw [← hzx, vz_len]
        have HPL : Hid (zp.length + tn ≤ 3000000) := Lib.hid (by have := HPL0.out; omega)
        have HZX := Lib.hid hZX
        have HVX := Lib.hid hzx
        have hnw : n₀ ≤ w1.heap.size := Nat.le_trans HN.out HBW.out.size
        have HNW := Lib.hid hnw
        have HZXL := Lib.hid hzxl
        clear hZX hzx hxl hnw hzxl
        go_wp2_with (at_builtin; refine wpList_app_at w1 rfl (.tmp 29) (.tmp 31) 28 rfl n₀ 55 zPiece 2 40 Try.underlying28 info55 rfl (by decide) (.slice PA zp.length pc) zp.length (cz zp) rfl HT1.out.p w1.heap.size TA tn tc (cz zx) rfl HZX.out.row.bare (pcs_one HZX.out.all) (by have := HPL.out; unfold maxLen; omega) (by have := HPL.out; omega) HNW.out ?_)
        intro PB pb w3 h1 h2 h3
        rw [← HZXL.out] at h1 h3
        obtain ⟨ht3, hg3⟩ := HT1.out.appP HNW.out HS.out HZX.out.all h1 h2 (fun g e => (h3 g e).imp id fun q => by first | exact q | (simp only [World.size_alloc]; exact q))
        have HT3 : Hid (Tel w3 n₀ S (.slice LC (zl.length + 1) lc1) (.slice PB (zp ++ zx).length pb) zl1 (zp ++ zx)) := Lib.hid (by rw [List.length_append]; exact ht3)
        have HG3 : Hid (Grow (w.alloc (.cells #[.int .i64 n, .int .i64 r, .string k, .slice AA an ac, .slice TA tn tc, .slice A m c] 31)) (.slice LA zl.length lc) (.slice PA zp.length pc) w3 (.slice LC (zl.length + 1) lc1) (.slice PB (zp ++ zx).length pb)) := Lib.hid (by rw [List.length_append]; exact HG1.out.trans hg3)
        have HVP : Hid (vz (zp ++ zx) = vz zp ++ tx) := Lib.hid (by rw [vz_append, HVX.out])
        clear h1 h2 h3 ht3 hg3 HT1 HG1 HBW HNW HZX
        have hzl : zp.length + tn = (zp ++ zx).length := by rw [List.length_append, HZXL.out]
        rw [hzl]
        clear hzl HZXL
        generalize hzpe : zp ++ zx = zq at *
        go_wp2_with fail
        go_loopw [1, 2, 8] (fun s1 s2 s8 wr => ∃ (i : Nat) (zl' : List (Z RT 6)) (zp' : List (Z Pce 2)) (LB : Option Addr) (lb : Nat) (PC : Option Addr) (pb : Nat), s8 = .int .i64 i ∧ i ≤ m ∧ s1 = .slice LB zl'.length lb ∧ s2 = .slice PC zp'.length pb ∧ Hid (vz zl' = vz zl ++ sl ++ tlL (ks.take i)) ∧ Hid (vz zp' = vz zp ++ tx ++ xtL (ks.take i)) ∧ Hid (Tel wr n₀ S (.slice LB zl'.length lb) (.slice PC zp'.length pb) zl' zp') ∧ Hid (Grow (w.alloc (.cells #[.int .i64 n, .int .i64 r, .string k, .slice AA an ac, .slice TA tn tc, .slice A m c] 31)) (.slice LA zl.length lc) (.slice PA zp.length pc) wr (.slice LB zl'.length lb) (.slice PC zp'.length pb))) (fun _ _ s8 _ => m - (intOf s8).toNat)
        case atStart => exact ⟨0, zl1, zq, LC, lc1, PB, pb, rfl, Nat.zero_le _, by rw [HLE.out], rfl, Lib.hid (HV1.out.trans (by simp [tlL])), Lib.hid (HVP.out.trans (by simp [xtL])), by rw [HLE.out]; exact HT3, by rw [HLE.out]; exact HG3⟩
        case round =>
          clear HT3 HG3
          obtain ⟨i, zl', zp', LB, lb, PC, pb', rfl, him, rfl, rfl, HVL, HVQ, HTR, HGR⟩ := hrel
          have hBr : Below n₀ (w.alloc (.cells #[.int .i64 n, .int .i64 r, .string k, .slice AA an ac, .slice TA tn tc, .slice A m c] 31)) wr := HGR.out.below HT0.out (Nat.le_trans HN.out HB0.out.size)
          have hBw : Below n₀ w wr := (HB0.out.mono HN.out).trans hBr
          have hXr : BoxN wr w.heap.size #[.int .i64 n, .int .i64 r, .string k, .slice AA an ac, .slice TA tn tc, .slice A m c] 31 := (HGR.out.block _ HX0.out.lt (fun e => by have := (HT.out.l.lt _ e).2; omega) (fun e => by have := (HT.out.p.lt _ e).2; omega)).trans HX0.out
          have x5 : wr.cell? ⟨w.heap.size, 5, none⟩ = some (.slice A m c) := hXr.cell (j := 5) rfl
          by_cases hlt : i < m
          · obtain ⟨b, off, x, u0, u1, u2, u3, u3n, u3c, u4, u4n, u4c, u5, u5n, u5c, rfl, hx, hb, hSb, hxk, hxn, c0, c1, c2, c3, c4, c5⟩ := (HK.out.stay (.beneath hBw (fun b _ h => HS.out b h) fun _ _ h => h) : RdF wr S A m c ks).nodeAt hlt
            have ik : (i : Int) < (m : Int) := by omega
            have ik0 : (0 : Int) ≤ (i : Int) := by omega
            have hmem := rsize_mem (List.mem_of_getElem? hx)
            have e1 := tlL_take hx
            have e2 := tlL_le ks (i + 1)
            have e3 := xtL_take hx
            have e4 := xtL_le ks (i + 1)
            have e5 := congrArg List.length HVL.out
            have e6 := congrArg List.length HVQ.out
            rw [e1, List.length_append] at e2
            rw [e3, List.length_append] at e4
            simp only [List.length_append, vz_len] at e5 e6
            have hl1 : zl'.length + (tl x).length ≤ 900000 := by have := HLL2.out; omega
            have hl2 : zp'.length + (xt x).length ≤ 3000000 := by have := HPL0.out; omega
            have HC := Lib.hid (HIH.out x (by have := HSZ.out; omega) _ wr n₀ S LB lb PC pb' zl' zp' HS.out (Nat.le_trans HN.out hBw.size) hxn HTR.out hl1 hl2)
            have HX := Lib.hid hx
            clear hx hSb hb hxk hxn hmem hXr hBr hBw e1 e2 e3 e4 e5 e6 hl1 hl2
            go_wp2_with fail
            refine HC.out.mono ?_
            rintro e w5 ⟨LB', lb', PC', pb2, zl2, zp2, rfl, hv1, hv2, hT5, hG5⟩
            have HT5 := Lib.hid hT5
            have HG5 := Lib.hid (HGR.out.trans hG5)
            have HV1' := Lib.hid hv1
            have HV2' := Lib.hid hv2
            clear hT5 hG5 hv1 hv2 HC x5 c0 c1 c2 c3 c4 c5
            go_wp2_with fail
            go_roundw
            case rel => exact ⟨i + 1, zl2, zp2, LB', lb', PC', pb2, by go_num, by omega, rfl, rfl, Lib.hid (by rw [HV1'.out, HVL.out, tlL_take HX.out]; simp), Lib.hid (by rw [HV2'.out, HVQ.out, xtL_take HX.out]; simp), HT5, HG5⟩
            case measure => simp [intOf]; omega
          · obtain rfl : i = m := by omega
            have HF1 : Hid (vz zl' = vz zl ++ (sl ++ tlL ks)) := Lib.hid (by rw [HVL.out, List.take_of_length_le (by rw [HKL.out]; exact Nat.le_refl _)]; simp)
            have HF2 : Hid (vz zp' = vz zp ++ (tx ++ xtL ks)) := Lib.hid (by rw [HVQ.out, List.take_of_length_le (by rw [HKL.out]; exact Nat.le_refl _)]; simp)
            clear hXr hBr hBw
            go_wp2_with fail
            go_ret2
            exact ⟨LB, lb, PC, pb', zl', zp', rfl, by rw [HF1.out, HTL.out], by rw [HF2.out, xt], HTR.out, (Grow.of_below HB0.out _ _).trans HGR.out⟩
end Go.Proofs.Ytcdhndhgainadaa

/-
  THE WALK OF RepairKeeps.
-/
namespace Go.Proofs.Ytcdhndhgainadaa.repairKeeps
open Go Go.RowKit
set_option linter.unusedVariables false
set_option linter.unusedSimpArgs false

theorem Tel.rdL {w : World} {n₀ : Nat} {S : Nat → Prop} {A : Option Addr} {n c : Nat} {vp : Value} {zl : List (Z RT 6)} {zp : List (Z Pce 2)} (h : Tel w n₀ S (.slice A n c) vp zl zp) : RdF w (fun _ => True) A n c (vz zl) := by
  obtain ⟨A', c', e, h1, h2⟩ := own_slice h.l
  injection e with e1 e2 e3
  subst e1 e2 e3
  exact ⟨zl, rfl, (Rd.of_own h.l).foot (Nat.le_refl _) (fun _ _ _ => trivial), rfl, fun z hz => (h.la z hz).bare.foot (Nat.le_refl _) fun _ _ => trivial, h1, h2⟩
theorem Tel.rdP {w : World} {n₀ : Nat} {S : Nat → Prop} {A : Option Addr} {n c : Nat} {vl : Value} {zl : List (Z RT 6)} {zp : List (Z Pce 2)} (h : Tel w n₀ S vl (.slice A n c) zl zp) : RdP w w.heap.size A n c (vz zp) := by
  obtain ⟨A', c', e, h1, h2⟩ := own_slice h.p
  injection e with e1 e2 e3
  subst e1 e2 e3
  exact ⟨zp, rfl, Rd.of_own h.p, rfl, fun z hz => (h.pa z hz).up (Nat.le_refl _) (only_reads w S _), h1, h2⟩
theorem Tel.nil (w : World) (n₀ : Nat) (S : Nat → Prop) : Tel w n₀ S (.slice none 0 0) (.slice none 0 0) [] [] :=
  ⟨World.ownsRow_nil _ _ _ _, by simp, World.ownsRow_nil _ _ _ _, by simp⟩
theorem nd_got {w : World} {S : Nat → Prop} {u0 u1 n r : Int} {u2 k : ByteArray} {u3 u4 u5 : Option Addr} {u3n u3c u4n u4c u5n u5c : Nat} {a : List Att} {x : List Pce} {ks : List RT}
    (h : NdF w S [.int .i64 u0, .int .i64 u1, .string u2, .slice u3 u3n u3c, .slice u4 u4n u4c, .slice u5 u5n u5c] (.node n r k a x ks)) : n = u0 ∧ r = u1 ∧ k = u2 ∧ RdAF w S u3 u3n u3c a := by
  obtain ⟨n', r', k', AA', an', ac', TA', tn', tc', A', m', c', at', tx', ks', hve, ht', ha', hp', hks'⟩ := h.parts
  injection ht' with e1 e2 e3 e4 e5 e6
  subst e1 e2 e3 e4 e5 e6
  simp only [List.cons.injEq, Value.slice.injEq, Value.int.injEq, Value.string.injEq, and_true, true_and] at hve
  obtain ⟨rfl, rfl, rfl, ⟨rfl, rfl, rfl⟩, -⟩ := hve
  exact ⟨rfl, rfl, rfl, ha'⟩
theorem not_kept {root : Bool} {i : Nat} {k k' : ByteArray} (h : Kept root i k k') (hr : root = false ∨ i ≠ 0) (hk : k ≠ k') (hn : (kd k).known = true) : k = sDoc := by
  rcases h with h | h | h | h
  · rcases hr with h1 | h1
    · rw [h1] at h; exact absurd h.1 (by decide)
    · exact absurd h.2 h1
  · exact absurd h hk
  · rw [hn] at h; cases h
  · exact kd_doc h

set_option maxRecDepth 100000 in
set_option maxHeartbeats 4000000 in
theorem walk (W : World) (v : List Value) (t : RT) (hv : NdR W W.heap.size v t) (hbulk : (xt t).length ≤ 1048576) : Calls Try.prog 9 #[.agg v.toArray] W fun e w' => e = .returned (.bool true) ∧ Below W.heap.size W w' := by
  have hfoot : NdF W (fun b => b < W.heap.size) v t := hv.foot (Nat.le_refl _) fun _ h => h
  have HL := Lib.hid (large25_any (hv.beneath (w' := W.alloc (.cells v.toArray 31)) (blAl _) (by simp)))
  have HV := Lib.hid hv
  have HFT := Lib.hid hfoot
  obtain ⟨n, r, k, AA, an, ac, TA, tn, tc, A, m, c, at_, tx, ks, rfl, hP⟩ := hv.parts
  have HX0 := Lib.hid (BoxN.made W #[.int .i64 n, .int .i64 r, .string k, .slice AA an ac, .slice TA tn tc, .slice A m c] 31)
  have HB0 := Lib.hid (blAl (w := W) (.cells #[.int .i64 n, .int .i64 r, .string k, .slice AA an ac, .slice TA tn tc, .slice A m c] 31))
  have HTE : Hid (t = .node n r k at_ tx ks) := Lib.hid hP.tree
  have HAN : Hid (at_.length = an) := Lib.hid hP.attrs.len
  have HBK := Lib.hid hbulk
  clear hv hfoot hP hbulk
  obtain ⟨big, hbig⟩ : ∃ b : Bool, decide (300 < rsize t) = b := ⟨_, rfl⟩
  rw [hbig] at HL
  have HBIG := Lib.hid hbig
  clear hbig
  go_enter Try.func9, Try.ntmps9
  go_wp2_with fail
  refine HL.out.mono ?_
  rintro e w1 ⟨rfl, hB1⟩
  have hX1 := HX0.out.below hB1 HX0.out.lt
  have H1 := Lib.hid (HB0.out.trans (hB1.mono HB0.out.size))
  have HX1 := Lib.hid hX1
  cases big
  case true =>
    clear hX1 HL HB0 HX0 hB1
    go_wp2_with fail
    refine (alive26_any _).mono ?_
    rintro e w2 ⟨rfl, hB2⟩
    have H2 := Lib.hid (H1.out.trans (hB2.mono H1.out.size))
    clear hB2
    go_wp2_with fail
    go_ret
    exact ⟨rfl, H2.out⟩
  case false =>
    have hsz : rsize t ≤ 300 := by have := of_decide_eq_false HBIG.out; omega
    have HSZ := Lib.hid hsz
    clear hsz
    have w1c0 : w1.cell? ⟨W.heap.size, 0, none⟩ = some (.int .i64 n) := hX1.cell (j := 0) rfl
    have w1c1 : w1.cell? ⟨W.heap.size, 1, none⟩ = some (.int .i64 r) := hX1.cell (j := 1) rfl
    have w1c2 : w1.cell? ⟨W.heap.size, 2, none⟩ = some (.string k) := hX1.cell (j := 2) rfl
    have w1c3 : w1.cell? ⟨W.heap.size, 3, none⟩ = some (.slice AA an ac) := hX1.cell (j := 3) rfl
    have w1c4 : w1.cell? ⟨W.heap.size, 4, none⟩ = some (.slice TA tn tc) := hX1.cell (j := 4) rfl
    have w1c5 : w1.cell? ⟨W.heap.size, 5, none⟩ = some (.slice A m c) := hX1.cell (j := 5) rfl
    clear hB1 HL HB0 HX0 hX1
    have HC := Lib.hid (told30_any 400 t (by have := HSZ.out; omega) (#[.int .i64 n, .int .i64 r, .string k, .slice AA an ac, .slice TA tn tc, .slice A m c] : Array Value).toList w1 w1.heap.size (fun b => b < W.heap.size) none 0 none 0 [] [] (fun b h => Nat.lt_of_lt_of_le h H1.out.size) (Nat.le_refl _) (HFT.out.stay (.beneath H1.out (fun b _ h => h) fun _ _ h => h)) (Tel.nil _ _ _) (by have := tl_size t; have := HSZ.out; simp; omega) (by have := HBK.out; simp; omega))
    go_wp2_with fail
    refine HC.out.mono ?_
    rintro e w2 ⟨LA, lc, PA, pc, zl, zp, rfl, hl, hp, hT, hG⟩
    have hb2 : Below w1.heap.size w1 w2 := hG.below (Tel.nil w1 _ fun _ => False) (Nat.le_refl _)
    have H2 := Lib.hid (H1.out.trans (hb2.mono H1.out.size))
    have hX2 := HX1.out.below hb2 HX1.out.lt
    have HX2 := Lib.hid hX2
    have HT := Lib.hid hT
    have HLV : Hid (vz zl = tl t) := Lib.hid hl
    have HPV : Hid (vz zp = xt t) := Lib.hid hp
    have w2c0 : w2.cell? ⟨W.heap.size, 0, none⟩ = some (.int .i64 n) := hX2.cell (j := 0) rfl
    have w2c1 : w2.cell? ⟨W.heap.size, 1, none⟩ = some (.int .i64 r) := hX2.cell (j := 1) rfl
    have w2c2 : w2.cell? ⟨W.heap.size, 2, none⟩ = some (.string k) := hX2.cell (j := 2) rfl
    have w2c3 : w2.cell? ⟨W.heap.size, 3, none⟩ = some (.slice AA an ac) := hX2.cell (j := 3) rfl
    have w2c4 : w2.cell? ⟨W.heap.size, 4, none⟩ = some (.slice TA tn tc) := hX2.cell (j := 4) rfl
    have w2c5 : w2.cell? ⟨W.heap.size, 5, none⟩ = some (.slice A m c) := hX2.cell (j := 5) rfl
    clear HC HX1 hb2 hX2 hT hG hl hp w1c0 w1c1 w1c2 w1c3 w1c4 w1c5
    have HC := Lib.hid (repair28_any t (by have := HSZ.out; omega) w2 (fun b => b < W.heap.size) _ (fun b h => Nat.lt_of_lt_of_le h H2.out.size) (HFT.out.stay (.beneath H2.out (fun b _ h => h) fun _ _ h => h)))
    go_wp2_with fail
    refine HC.out.mono ?_
    rintro e w3 ⟨v3, rfl, hv3, hB3⟩
    have hs2 := repair_size t
    have HC2 := Lib.hid (told30_any 2000 (repairT t) (by have := HSZ.out; omega) v3.toList w3 w3.heap.size (fun b => b < w3.heap.size) none 0 none 0 [] [] (fun b h => h) (Nat.le_refl _) (hv3.bare.foot (Nat.le_refl _) fun _ h => h) (Tel.nil _ _ _) (by have := tl_size (repairT t); have := HSZ.out; simp; omega) (by have := HBK.out; rw [repair_xt2]; simp; omega))
    have H3 := Lib.hid hB3
    clear HC hv3 hB3 hs2 w2c0 w2c1 w2c2 w2c3 w2c4 w2c5
    go_wp2_with fail
    refine HC2.out.mono ?_
    rintro e w5 ⟨LB, lc', PB, pc', zm, zq, rfl, hm, hq, hT5, hG5⟩
    have hb5 : Below w3.heap.size w3 w5 := hG5.below (Tel.nil w3 _ fun _ => False) (Nat.le_refl _)
    have hb25 : Below w2.heap.size w2 w5 := H3.out.trans (hb5.mono H3.out.size)
    have hT2 := HT.out.below hb25
    have hX5 := HX2.out.below hb25 HX2.out.lt
    have H5 := Lib.hid (H2.out.trans (hb25.mono H2.out.size))
    have HX5 := Lib.hid hX5
    have hkeep := keeps n r k at_ tx ks
    rw [← HTE.out] at hkeep
    have hlen : zm.length = zl.length := by
      have e1 := congrArg List.length HLV.out
      have e2 := congrArg List.length hm
      rw [vz_len] at e1 e2
      rw [e1, e2]
      exact hkeep.1
    have hrl := Tel.rdL hT2
    have hrm := Tel.rdL hT5
    rw [hlen] at hrm ⊢
    have hrp := Tel.rdP hT2
    have hrq := Tel.rdP hT5
    have hpq : decide (vz zp = vz zq) = true := decide_eq_true (by rw [HPV.out, show vz zq = xt (repairT t) from hq, repair_xt2])
    have HSP := Lib.hid (same17_any hrp hrq)
    rw [hpq] at HSP
    have hmax : zl.length ≤ 9223372036854775807 := by obtain ⟨zz, _, hz⟩ := hrl; exact Nat.le_trans hz.cap hz.max
    rw [HLV.out] at hrl
    rw [show vz zm = tl (repairT t) from hm] at hrm
    have HRL := Lib.hid hrl
    have HRM := Lib.hid hrm
    have HKP := Lib.hid hkeep.2
    clear HC2 HT HX2 HLV HPV hm hq hT5 hG5 hb5 hb25 hT2 hX5 hkeep hlen hrl hrm hrp hrq hpq H2 H3
    go_wp2_with fail
    refine HSP.out.mono ?_
    rintro e w6 ⟨rfl, q6, rfl⟩
    have hb6 : Below w5.heap.size w5 (w5.drewN q6) := blw_draw (Below.refl _ _) q6
    generalize hw6 : w5.drewN q6 = w6 at *
    have HB6 := Lib.hid hb6
    clear HSP hw6 hb6
    go_wp2_with fail
    go_loopw [9] (fun s9 wr => ∃ i : Nat, s9 = .int .i64 i ∧ i ≤ zl.length ∧ Hid (Below w5.heap.size w5 wr)) (fun s9 _ => zl.length - (intOf s9).toNat)
    case atStart => exact ⟨0, rfl, Nat.zero_le _, HB6⟩
    case round =>
      clear HB6
      obtain ⟨i, rfl, him, HBR⟩ := hrel
      by_cases hlt : i < zl.length
      · obtain ⟨b, off, x, u0, u1, u2, u3, u3n, u3c, u4, u4n, u4c, u5, u5n, u5c, rfl, hx, hb, -, -, hxn, c0, c1, c2, c3, -, -⟩ := (HRL.out.stay (.below HBR.out fun _ _ h => h) : RdF wr (fun _ => True) LA zl.length lc (tl t)).nodeAt hlt
        obtain ⟨n1, r1, k1, a1, k2, rfl, hy1, hkept⟩ := HKP.out i x hx
        obtain ⟨b', off', y, v0, v1, v2, v3, v3n, v3c, v4, v4n, v4c, v5, v5n, v5c, rfl, hy, hb', -, -, hyn, d0, d1, d2, d3, -, -⟩ := (HRM.out.stay (.below HBR.out fun _ _ h => h) : RdF wr (fun _ => True) LB zl.length lc' (tl (repairT t))).nodeAt hlt
        obtain rfl : y = _ := Option.some.inj (hy.symm.trans hy1)
        obtain ⟨rfl, rfl, rfl, hxa⟩ := nd_got hxn
        obtain ⟨rfl, rfl, rfl, hya⟩ := nd_got hyn
        have ik : (i : Int) < (zl.length : Int) := by omega
        have ik0 : (0 : Int) ≤ (i : Int) := by omega
        have HKE := Lib.hid hkept
        have HXA := Lib.hid hxa.bare
        have HYA := Lib.hid hya.bare
        have HLT := Lib.hid (And.intro hb hb')
        clear hx hy hy1 hxn hyn hxa hya hkept hb hb'
        go_wp2_with fail
        have HSW : (fun w' : World => w'.cell? ⟨b, off + i * 6, none⟩ = some (.int .i64 n1) ∧ w'.cell? ⟨b, off + i * 6 + 1, none⟩ = some (.int .i64 r1) ∧ w'.cell? ⟨b, off + i * 6 + 2, none⟩ = some (.string k1) ∧ w'.cell? ⟨b, off + i * 6 + 3, none⟩ = some (.slice u3 u3n u3c) ∧ w'.cell? ⟨b', off' + i * 6, none⟩ = some (.int .i64 n1) ∧ w'.cell? ⟨b', off' + i * 6 + 1, none⟩ = some (.int .i64 r1) ∧ w'.cell? ⟨b', off' + i * 6 + 2, none⟩ = some (.string k2) ∧ w'.cell? ⟨b', off' + i * 6 + 3, none⟩ = some (.slice v3 v3n v3c)) wr.drew := ⟨c0, c1, c2, c3, d0, d1, d2, d3⟩
        refine wp_region_held (S := (fun w' : World => w'.cell? ⟨b, off + i * 6, none⟩ = some (.int .i64 n1) ∧ w'.cell? ⟨b, off + i * 6 + 1, none⟩ = some (.int .i64 r1) ∧ w'.cell? ⟨b, off + i * 6 + 2, none⟩ = some (.string k1) ∧ w'.cell? ⟨b, off + i * 6 + 3, none⟩ = some (.slice u3 u3n u3c) ∧ w'.cell? ⟨b', off' + i * 6, none⟩ = some (.int .i64 n1) ∧ w'.cell? ⟨b', off' + i * 6 + 1, none⟩ = some (.int .i64 r1) ∧ w'.cell? ⟨b', off' + i * 6 + 2, none⟩ = some (.string k2) ∧ w'.cell? ⟨b', off' + i * 6 + 3, none⟩ = some (.slice v3 v3n v3c))) (by kernel_rfl) ?_
        change wpAnyH _ _ _ _ _ _ _ _ wr.drew
        refine held_take (i := 0) (v := (.slice (some ⟨b, off, none⟩) zl.length lc)) rfl (by kernel_rfl) (by kernel_rfl) (by kernel_rfl) (fun _ _ _ h => h) rfl (fun w' hS => by
          obtain ⟨s0, s1, s2, s3, t0, t1, t2, t3⟩ := hS
          go_simp) HSW ?_
        simp only [Act.put, List.setIfInBounds_toArray, List.set_cons_succ, List.set_cons_zero, List.getElem_toArray, List.getElem_cons_succ, List.getElem_cons_zero]
        refine held_take (i := 1) (v := (.int .i64 (i : Int))) rfl (by kernel_rfl) (by kernel_rfl) (by kernel_rfl) (fun _ _ _ h => h) rfl (fun w' hS => by
          obtain ⟨s0, s1, s2, s3, t0, t1, t2, t3⟩ := hS
          go_simp) HSW ?_
        simp only [Act.put, List.setIfInBounds_toArray, List.set_cons_succ, List.set_cons_zero, List.getElem_toArray, List.getElem_cons_succ, List.getElem_cons_zero]
        refine held_take (i := 2) (v := (.pointer (some ⟨b, off + i * 6, none⟩))) rfl (by kernel_rfl) (by kernel_rfl) (by kernel_rfl) (fun _ _ _ h => h) rfl (fun w' hS => by
          obtain ⟨s0, s1, s2, s3, t0, t1, t2, t3⟩ := hS
          go_simp) HSW ?_
        simp only [Act.put, List.setIfInBounds_toArray, List.set_cons_succ, List.set_cons_zero, List.getElem_toArray, List.getElem_cons_succ, List.getElem_cons_zero]
        refine held_take (i := 3) (v := (.pointer (some ⟨b, off + i * 6 + 3, none⟩))) rfl (by kernel_rfl) (by kernel_rfl) (by kernel_rfl) (fun _ _ _ h => h) rfl (fun w' hS => by
          obtain ⟨s0, s1, s2, s3, t0, t1, t2, t3⟩ := hS
          go_simp) HSW ?_
        simp only [Act.put, List.setIfInBounds_toArray, List.set_cons_succ, List.set_cons_zero, List.getElem_toArray, List.getElem_cons_succ, List.getElem_cons_zero]
        refine held_take (i := 4) (v := (.slice u3 u3n u3c)) rfl (by kernel_rfl) (by kernel_rfl) (by kernel_rfl) (fun _ _ _ h => h) rfl (fun w' hS => by
          obtain ⟨s0, s1, s2, s3, t0, t1, t2, t3⟩ := hS
          go_simp) HSW ?_
        simp only [Act.put, List.setIfInBounds_toArray, List.set_cons_succ, List.set_cons_zero, List.getElem_toArray, List.getElem_cons_succ, List.getElem_cons_zero]
        refine held_take (i := 5) (v := (.slice (some ⟨b', off', none⟩) zl.length lc')) rfl (by kernel_rfl) (by kernel_rfl) (by kernel_rfl) (fun _ _ _ h => h) rfl (fun w' hS => by
          obtain ⟨s0, s1, s2, s3, t0, t1, t2, t3⟩ := hS
          go_simp) HSW ?_
        simp only [Act.put, List.setIfInBounds_toArray, List.set_cons_succ, List.set_cons_zero, List.getElem_toArray, List.getElem_cons_succ, List.getElem_cons_zero]
        refine held_take (i := 6) (v := (.int .i64 (i : Int))) rfl (by kernel_rfl) (by kernel_rfl) (by kernel_rfl) (fun _ _ _ h => h) rfl (fun w' hS => by
          obtain ⟨s0, s1, s2, s3, t0, t1, t2, t3⟩ := hS
          go_simp) HSW ?_
        simp only [Act.put, List.setIfInBounds_toArray, List.set_cons_succ, List.set_cons_zero, List.getElem_toArray, List.getElem_cons_succ, List.getElem_cons_zero]
        refine held_take (i := 7) (v := (.pointer (some ⟨b', off' + i * 6, none⟩))) rfl (by kernel_rfl) (by kernel_rfl) (by kernel_rfl) (fun _ _ _ h => h) rfl (fun w' hS => by
          obtain ⟨s0, s1, s2, s3, t0, t1, t2, t3⟩ := hS
          go_simp) HSW ?_
        simp only [Act.put, List.setIfInBounds_toArray, List.set_cons_succ, List.set_cons_zero, List.getElem_toArray, List.getElem_cons_succ, List.getElem_cons_zero]
        refine held_take (i := 8) (v := (.pointer (some ⟨b', off' + i * 6 + 3, none⟩))) rfl (by kernel_rfl) (by kernel_rfl) (by kernel_rfl) (fun _ _ _ h => h) rfl (fun w' hS => by
          obtain ⟨s0, s1, s2, s3, t0, t1, t2, t3⟩ := hS
          go_simp) HSW ?_
        simp only [Act.put, List.setIfInBounds_toArray, List.set_cons_succ, List.set_cons_zero, List.getElem_toArray, List.getElem_cons_succ, List.getElem_cons_zero]
        refine held_take (i := 9) (v := (.slice v3 v3n v3c)) rfl (by kernel_rfl) (by kernel_rfl) (by kernel_rfl) (fun _ _ _ h => h) rfl (fun w' hS => by
          obtain ⟨s0, s1, s2, s3, t0, t1, t2, t3⟩ := hS
          go_simp) HSW ?_
        simp only [Act.put, List.setIfInBounds_toArray, List.set_cons_succ, List.set_cons_zero, List.getElem_toArray, List.getElem_cons_succ, List.getElem_cons_zero]
        have hdr : Below wr.heap.size wr wr.drew := (Below.refl _ _).drew
        refine held_call (i := 10) (by kernel_rfl) rfl rfl rfl (enters_of Try.func32 (by kernel_rfl) rfl) [.slice u3 u3n u3c, .slice v3 v3n v3c] rfl (same15_any (HXA.out.beneath hdr (Nat.le_refl _)) (HYA.out.beneath hdr (Nat.le_refl _))) ?_
        rw [decide_eq_true (rfl : a1 = a1)]
        rintro e wa ⟨rfl, q7, hq7⟩
        have hba : Below wr.heap.size wr wa := by rw [hq7]; exact blw_draw hdr q7
        have hsa : (fun w' : World => w'.cell? ⟨b, off + i * 6, none⟩ = some (.int .i64 n1) ∧ w'.cell? ⟨b, off + i * 6 + 1, none⟩ = some (.int .i64 r1) ∧ w'.cell? ⟨b, off + i * 6 + 2, none⟩ = some (.string k1) ∧ w'.cell? ⟨b, off + i * 6 + 3, none⟩ = some (.slice u3 u3n u3c) ∧ w'.cell? ⟨b', off' + i * 6, none⟩ = some (.int .i64 n1) ∧ w'.cell? ⟨b', off' + i * 6 + 1, none⟩ = some (.int .i64 r1) ∧ w'.cell? ⟨b', off' + i * 6 + 2, none⟩ = some (.string k2) ∧ w'.cell? ⟨b', off' + i * 6 + 3, none⟩ = some (.slice v3 v3n v3c)) wa := ⟨(hba.cell (p := ⟨b, off + i * 6, none⟩) HLT.out.1).trans c0, (hba.cell (p := ⟨b, off + i * 6 + 1, none⟩) HLT.out.1).trans c1, (hba.cell (p := ⟨b, off + i * 6 + 2, none⟩) HLT.out.1).trans c2, (hba.cell (p := ⟨b, off + i * 6 + 3, none⟩) HLT.out.1).trans c3, (hba.cell (p := ⟨b', off' + i * 6, none⟩) HLT.out.2).trans d0, (hba.cell (p := ⟨b', off' + i * 6 + 1, none⟩) HLT.out.2).trans d1, (hba.cell (p := ⟨b', off' + i * 6 + 2, none⟩) HLT.out.2).trans d2, (hba.cell (p := ⟨b', off' + i * 6 + 3, none⟩) HLT.out.2).trans d3⟩
        refine ⟨_, rfl, hsa, ?_⟩
        simp only [Act.put, List.setIfInBounds_toArray, List.set_cons_succ, List.set_cons_zero, List.getElem_toArray, List.getElem_cons_succ, List.getElem_cons_zero]
        refine held_take (i := 11) (v := .bool true) rfl (by kernel_rfl) (by kernel_rfl) (by kernel_rfl) (fun _ _ _ h => h) rfl (fun w' hS => by
          obtain ⟨s0, s1, s2, s3, t0, t1, t2, t3⟩ := hS
          go_simp) hsa ?_
        simp only [Act.put, List.setIfInBounds_toArray, List.set_cons_succ, List.set_cons_zero, List.getElem_toArray, List.getElem_cons_succ, List.getElem_cons_zero]
        refine wpAnyH_done (by kernel_rfl) ?_ _
        have HSA := Lib.hid hsa
        have HBA : Hid (Below w5.heap.size w5 wa) := Lib.hid (HBR.out.trans (hba.mono HBR.out.size))
        obtain ⟨s0, s1, s2, s3, t0, t1, t2, t3⟩ := hsa
        have hxa := HX5.out.below HBA.out HX5.out.lt
        have wac0 : wa.cell? ⟨W.heap.size, 0, none⟩ = some (.int .i64 n) := hxa.cell (j := 0) rfl
        have wac1 : wa.cell? ⟨W.heap.size, 1, none⟩ = some (.int .i64 r) := hxa.cell (j := 1) rfl
        have wac2 : wa.cell? ⟨W.heap.size, 2, none⟩ = some (.string k) := hxa.cell (j := 2) rfl
        have wac3 : wa.cell? ⟨W.heap.size, 3, none⟩ = some (.slice AA an ac) := hxa.cell (j := 3) rfl
        have wac4 : wa.cell? ⟨W.heap.size, 4, none⟩ = some (.slice TA tn tc) := hxa.cell (j := 4) rfl
        have wac5 : wa.cell? ⟨W.heap.size, 5, none⟩ = some (.slice A m c) := hxa.cell (j := 5) rfl
        clear hxa hba hdr HSW HXA HYA HLT hq7 c0 c1 c2 c3 d0 d1 d2 d3
        go_wp2_with fail
        refine (known_any k1 _).mono ?_
        rintro e w' ⟨rfl, hww⟩
        obtain rfl := hww.symm
        obtain ⟨kn, hkn⟩ : ∃ b : Bool, (kd k1).known = b := ⟨_, rfl⟩
        rw [hkn]
        have HKN := Lib.hid hkn
        clear hkn
        go_upto_region 14 with fail
        go_cut [12] from 41 to 122 (fun s12 w' => ∃ root : Bool, s12 = .bool root ∧ wa = w' ∧ Hid (root = false → (!decide (n = 0 ∧ r = 0 ∧ at_.length = 0)) = false ∨ i ≠ 0))
        case first =>
          by_cases hi : i = 0
          · have gi : ((i : Int) == 0) = true := by simp [hi]
            clear hi
            by_cases hid : n = 0
            · by_cases hir : r = 0
              · by_cases hia : an = 0
                · have g1 : (n != 0) = false := by rw [hid]; rfl
                  have g2 : (n == 0) = true := by rw [hid]; rfl
                  have g3 : (r != 0) = false := by rw [hir]; rfl
                  have g4 : (r == 0) = true := by rw [hir]; rfl
                  have g5 : decide ((0 : Int) < (an : Int)) = false := by rw [hia]; rfl
                  have g6 : ¬ (0 : Int) < (an : Int) := by omega
                  have g7 : ¬ 0 < an := by omega
                  have g8 : decide (0 < an) = false := by simp [hia]
                  have HRT : Hid ((!decide (n = 0 ∧ r = 0 ∧ at_.length = 0)) = false) := Lib.hid (by rw [decide_eq_true ⟨hid, hir, HAN.out.trans hia⟩]; rfl)
                  clear hid hir hia
                  go_wp2_with fail
                  go_meet
                  case rel => exact ⟨false, rfl, rfl, Lib.hid fun _ => .inl HRT.out⟩
                · have g1 : (n != 0) = false := by rw [hid]; rfl
                  have g2 : (n == 0) = true := by rw [hid]; rfl
                  have g3 : (r != 0) = false := by rw [hir]; rfl
                  have g4 : (r == 0) = true := by rw [hir]; rfl
                  have g5 : (0 : Int) < (an : Int) := by omega
                  have g7 : 0 < an := by omega
                  have g8 : decide (0 < an) = true := decide_eq_true g7
                  clear hid hir hia
                  go_wp2_with fail
                  go_meet
                  case rel => exact ⟨true, rfl, rfl, Lib.hid (fun e => by cases e)⟩
              · have g0 : (n != 0) = false := by rw [hid]; rfl
                have g00 : (n == 0) = true := by rw [hid]; rfl
                have g1 : (r != 0) = true := by simpa using hir
                have g2 : (r == 0) = false := by simpa using hir
                clear hid hir
                go_wp2_with fail
                go_meet
                case rel => exact ⟨true, rfl, rfl, Lib.hid (fun e => by cases e)⟩
            · have g1 : (n != 0) = true := by simpa using hid
              have g2 : (n == 0) = false := by simpa using hid
              clear hid
              go_wp2_with fail
              go_meet
              case rel => exact ⟨true, rfl, rfl, Lib.hid (fun e => by cases e)⟩
          · have gi : ((i : Int) == 0) = false := by simpa using hi
            have hi0 := Lib.hid hi
            clear hi
            go_wp2_with fail
            go_meet
            case rel => exact ⟨false, rfl, rfl, Lib.hid fun _ => .inr hi0.out⟩
        case rest =>
          obtain ⟨root, rfl, hwc, HRT⟩ := hcut
          obtain rfl := hwc
          go_upto_region 15 with fail
          go_cut [13] from 41 to 122 (fun s13 w' => s13 = .bool true ∧ wa.drew = w')
          case first =>
            cases root
            case true =>
              have HSW : (fun w' : World => w'.cell? ⟨b, off + i * 6, none⟩ = some (.int .i64 n1) ∧ w'.cell? ⟨b, off + i * 6 + 1, none⟩ = some (.int .i64 r1) ∧ w'.cell? ⟨b, off + i * 6 + 2, none⟩ = some (.string k1) ∧ w'.cell? ⟨b, off + i * 6 + 3, none⟩ = some (.slice u3 u3n u3c) ∧ w'.cell? ⟨b', off' + i * 6, none⟩ = some (.int .i64 n1) ∧ w'.cell? ⟨b', off' + i * 6 + 1, none⟩ = some (.int .i64 r1) ∧ w'.cell? ⟨b', off' + i * 6 + 2, none⟩ = some (.string k2) ∧ w'.cell? ⟨b', off' + i * 6 + 3, none⟩ = some (.slice v3 v3n v3c)) wa.drew := HSA.out
              refine wp_region_held (S := (fun w' : World => w'.cell? ⟨b, off + i * 6, none⟩ = some (.int .i64 n1) ∧ w'.cell? ⟨b, off + i * 6 + 1, none⟩ = some (.int .i64 r1) ∧ w'.cell? ⟨b, off + i * 6 + 2, none⟩ = some (.string k1) ∧ w'.cell? ⟨b, off + i * 6 + 3, none⟩ = some (.slice u3 u3n u3c) ∧ w'.cell? ⟨b', off' + i * 6, none⟩ = some (.int .i64 n1) ∧ w'.cell? ⟨b', off' + i * 6 + 1, none⟩ = some (.int .i64 r1) ∧ w'.cell? ⟨b', off' + i * 6 + 2, none⟩ = some (.string k2) ∧ w'.cell? ⟨b', off' + i * 6 + 3, none⟩ = some (.slice v3 v3n v3c))) (by kernel_rfl) ?_
              change wpAnyH _ _ _ _ _ _ _ _ wa.drew
              refine held_take (i := 0) (v := .bool true) rfl (by kernel_rfl) (by kernel_rfl) (by kernel_rfl) (fun _ _ _ h => h) rfl (fun w' hS => by
                obtain ⟨s0, s1, s2, s3, t0, t1, t2, t3⟩ := hS
                go_simp) HSW ?_
              simp only [Act.put, List.setIfInBounds_toArray, List.set_cons_succ, List.set_cons_zero, List.getElem_toArray, List.getElem_cons_succ, List.getElem_cons_zero]
              refine held_take (i := 1) (v := .bool true) rfl (by kernel_rfl) (by kernel_rfl) (by kernel_rfl) (fun _ _ _ h => h) rfl (fun w' hS => by
                obtain ⟨s0, s1, s2, s3, t0, t1, t2, t3⟩ := hS
                go_simp) HSW ?_
              simp only [Act.put, List.setIfInBounds_toArray, List.set_cons_succ, List.set_cons_zero, List.getElem_toArray, List.getElem_cons_succ, List.getElem_cons_zero]
              refine held_skip (i := 2) rfl (by kernel_rfl) (by kernel_rfl) (by kernel_rfl) (fun _ _ _ h => h) rfl HSW ?_
              simp only [Act.put, List.setIfInBounds_toArray, List.set_cons_succ, List.set_cons_zero, List.getElem_toArray, List.getElem_cons_succ, List.getElem_cons_zero]
              refine held_skip (i := 3) rfl (by kernel_rfl) (by kernel_rfl) (by kernel_rfl) (fun _ _ _ h => h) rfl HSW ?_
              simp only [Act.put, List.setIfInBounds_toArray, List.set_cons_succ, List.set_cons_zero, List.getElem_toArray, List.getElem_cons_succ, List.getElem_cons_zero]
              refine held_skip (i := 4) rfl (by kernel_rfl) (by kernel_rfl) (by kernel_rfl) (fun _ _ _ h => h) rfl HSW ?_
              simp only [Act.put, List.setIfInBounds_toArray, List.set_cons_succ, List.set_cons_zero, List.getElem_toArray, List.getElem_cons_succ, List.getElem_cons_zero]
              refine held_skip (i := 5) rfl (by kernel_rfl) (by kernel_rfl) (by kernel_rfl) (fun _ _ _ h => h) rfl HSW ?_
              simp only [Act.put, List.setIfInBounds_toArray, List.set_cons_succ, List.set_cons_zero, List.getElem_toArray, List.getElem_cons_succ, List.getElem_cons_zero]
              refine held_skip (i := 6) rfl (by kernel_rfl) (by kernel_rfl) (by kernel_rfl) (fun _ _ _ h => h) rfl HSW ?_
              simp only [Act.put, List.setIfInBounds_toArray, List.set_cons_succ, List.set_cons_zero, List.getElem_toArray, List.getElem_cons_succ, List.getElem_cons_zero]
              refine held_skip (i := 7) rfl (by kernel_rfl) (by kernel_rfl) (by kernel_rfl) (fun _ _ _ h => h) rfl HSW ?_
              simp only [Act.put, List.setIfInBounds_toArray, List.set_cons_succ, List.set_cons_zero, List.getElem_toArray, List.getElem_cons_succ, List.getElem_cons_zero]
              refine held_skip (i := 8) rfl (by kernel_rfl) (by kernel_rfl) (by kernel_rfl) (fun _ _ _ h => h) rfl HSW ?_
              simp only [Act.put, List.setIfInBounds_toArray, List.set_cons_succ, List.set_cons_zero, List.getElem_toArray, List.getElem_cons_succ, List.getElem_cons_zero]
              refine held_skip (i := 9) rfl (by kernel_rfl) (by kernel_rfl) (by kernel_rfl) (fun _ _ _ h => h) rfl HSW ?_
              simp only [Act.put, List.setIfInBounds_toArray, List.set_cons_succ, List.set_cons_zero, List.getElem_toArray, List.getElem_cons_succ, List.getElem_cons_zero]
              refine held_skip (i := 10) rfl (by kernel_rfl) (by kernel_rfl) (by kernel_rfl) (fun _ _ _ h => h) rfl HSW ?_
              simp only [Act.put, List.setIfInBounds_toArray, List.set_cons_succ, List.set_cons_zero, List.getElem_toArray, List.getElem_cons_succ, List.getElem_cons_zero]
              refine held_skip (i := 11) rfl (by kernel_rfl) (by kernel_rfl) (by kernel_rfl) (fun _ _ _ h => h) rfl HSW ?_
              simp only [Act.put, List.setIfInBounds_toArray, List.set_cons_succ, List.set_cons_zero, List.getElem_toArray, List.getElem_cons_succ, List.getElem_cons_zero]
              refine held_skip (i := 12) rfl (by kernel_rfl) (by kernel_rfl) (by kernel_rfl) (fun _ _ _ h => h) rfl HSW ?_
              simp only [Act.put, List.setIfInBounds_toArray, List.set_cons_succ, List.set_cons_zero, List.getElem_toArray, List.getElem_cons_succ, List.getElem_cons_zero]
              refine held_take (i := 13) (v := .bool true) rfl (by kernel_rfl) (by kernel_rfl) (by kernel_rfl) (fun _ _ _ h => h) rfl (fun w' hS => by
                obtain ⟨s0, s1, s2, s3, t0, t1, t2, t3⟩ := hS
                go_simp) HSW ?_
              simp only [Act.put, List.setIfInBounds_toArray, List.set_cons_succ, List.set_cons_zero, List.getElem_toArray, List.getElem_cons_succ, List.getElem_cons_zero]
              refine held_take (i := 14) (v := .bool true) rfl (by kernel_rfl) (by kernel_rfl) (by kernel_rfl) (fun _ _ _ h => h) rfl (fun w' hS => by
                obtain ⟨s0, s1, s2, s3, t0, t1, t2, t3⟩ := hS
                go_simp) HSW ?_
              simp only [Act.put, List.setIfInBounds_toArray, List.set_cons_succ, List.set_cons_zero, List.getElem_toArray, List.getElem_cons_succ, List.getElem_cons_zero]
              refine held_skip (i := 15) rfl (by kernel_rfl) (by kernel_rfl) (by kernel_rfl) (fun _ _ _ h => h) rfl HSW ?_
              simp only [Act.put, List.setIfInBounds_toArray, List.set_cons_succ, List.set_cons_zero, List.getElem_toArray, List.getElem_cons_succ, List.getElem_cons_zero]
              refine held_skip (i := 16) rfl (by kernel_rfl) (by kernel_rfl) (by kernel_rfl) (fun _ _ _ h => h) rfl HSW ?_
              simp only [Act.put, List.setIfInBounds_toArray, List.set_cons_succ, List.set_cons_zero, List.getElem_toArray, List.getElem_cons_succ, List.getElem_cons_zero]
              refine held_take (i := 17) (v := .bool true) rfl (by kernel_rfl) (by kernel_rfl) (by kernel_rfl) (fun _ _ _ h => h) rfl (fun w' hS => by
                obtain ⟨s0, s1, s2, s3, t0, t1, t2, t3⟩ := hS
                go_simp) HSW ?_
              simp only [Act.put, List.setIfInBounds_toArray, List.set_cons_succ, List.set_cons_zero, List.getElem_toArray, List.getElem_cons_succ, List.getElem_cons_zero]
              refine held_take (i := 18) (v := .bool true) rfl (by kernel_rfl) (by kernel_rfl) (by kernel_rfl) (fun _ _ _ h => h) rfl (fun w' hS => by
                obtain ⟨s0, s1, s2, s3, t0, t1, t2, t3⟩ := hS
                go_simp) HSW ?_
              simp only [Act.put, List.setIfInBounds_toArray, List.set_cons_succ, List.set_cons_zero, List.getElem_toArray, List.getElem_cons_succ, List.getElem_cons_zero]
              refine held_skip (i := 19) rfl (by kernel_rfl) (by kernel_rfl) (by kernel_rfl) (fun _ _ _ h => h) rfl HSW ?_
              simp only [Act.put, List.setIfInBounds_toArray, List.set_cons_succ, List.set_cons_zero, List.getElem_toArray, List.getElem_cons_succ, List.getElem_cons_zero]
              refine held_skip (i := 20) rfl (by kernel_rfl) (by kernel_rfl) (by kernel_rfl) (fun _ _ _ h => h) rfl HSW ?_
              simp only [Act.put, List.setIfInBounds_toArray, List.set_cons_succ, List.set_cons_zero, List.getElem_toArray, List.getElem_cons_succ, List.getElem_cons_zero]
              refine held_skip (i := 21) rfl (by kernel_rfl) (by kernel_rfl) (by kernel_rfl) (fun _ _ _ h => h) rfl HSW ?_
              simp only [Act.put, List.setIfInBounds_toArray, List.set_cons_succ, List.set_cons_zero, List.getElem_toArray, List.getElem_cons_succ, List.getElem_cons_zero]
              refine held_skip (i := 22) rfl (by kernel_rfl) (by kernel_rfl) (by kernel_rfl) (fun _ _ _ h => h) rfl HSW ?_
              simp only [Act.put, List.setIfInBounds_toArray, List.set_cons_succ, List.set_cons_zero, List.getElem_toArray, List.getElem_cons_succ, List.getElem_cons_zero]
              refine held_skip (i := 23) rfl (by kernel_rfl) (by kernel_rfl) (by kernel_rfl) (fun _ _ _ h => h) rfl HSW ?_
              simp only [Act.put, List.setIfInBounds_toArray, List.set_cons_succ, List.set_cons_zero, List.getElem_toArray, List.getElem_cons_succ, List.getElem_cons_zero]
              refine held_skip (i := 24) rfl (by kernel_rfl) (by kernel_rfl) (by kernel_rfl) (fun _ _ _ h => h) rfl HSW ?_
              simp only [Act.put, List.setIfInBounds_toArray, List.set_cons_succ, List.set_cons_zero, List.getElem_toArray, List.getElem_cons_succ, List.getElem_cons_zero]
              refine held_take (i := 25) (v := .bool true) rfl (by kernel_rfl) (by kernel_rfl) (by kernel_rfl) (fun _ _ _ h => h) rfl (fun w' hS => by
                obtain ⟨s0, s1, s2, s3, t0, t1, t2, t3⟩ := hS
                go_simp) HSW ?_
              simp only [Act.put, List.setIfInBounds_toArray, List.set_cons_succ, List.set_cons_zero, List.getElem_toArray, List.getElem_cons_succ, List.getElem_cons_zero]
              refine held_take (i := 26) (v := .bool true) rfl (by kernel_rfl) (by kernel_rfl) (by kernel_rfl) (fun _ _ _ h => h) rfl (fun w' hS => by
                obtain ⟨s0, s1, s2, s3, t0, t1, t2, t3⟩ := hS
                go_simp) HSW ?_
              simp only [Act.put, List.setIfInBounds_toArray, List.set_cons_succ, List.set_cons_zero, List.getElem_toArray, List.getElem_cons_succ, List.getElem_cons_zero]
              refine wpAnyH_done (by kernel_rfl) ?_ _
              clear HSW
              go_wp2_with fail
              go_meet
              case rel => exact ⟨rfl, rfl⟩
            case false =>
              by_cases hkk : k1 = k2
              · subst hkk
                have HSW : (fun w' : World => w'.cell? ⟨b, off + i * 6, none⟩ = some (.int .i64 n1) ∧ w'.cell? ⟨b, off + i * 6 + 1, none⟩ = some (.int .i64 r1) ∧ w'.cell? ⟨b, off + i * 6 + 2, none⟩ = some (.string k1) ∧ w'.cell? ⟨b, off + i * 6 + 3, none⟩ = some (.slice u3 u3n u3c) ∧ w'.cell? ⟨b', off' + i * 6, none⟩ = some (.int .i64 n1) ∧ w'.cell? ⟨b', off' + i * 6 + 1, none⟩ = some (.int .i64 r1) ∧ w'.cell? ⟨b', off' + i * 6 + 2, none⟩ = some (.string k1) ∧ w'.cell? ⟨b', off' + i * 6 + 3, none⟩ = some (.slice v3 v3n v3c)) wa.drew := HSA.out
                refine wp_region_held (S := (fun w' : World => w'.cell? ⟨b, off + i * 6, none⟩ = some (.int .i64 n1) ∧ w'.cell? ⟨b, off + i * 6 + 1, none⟩ = some (.int .i64 r1) ∧ w'.cell? ⟨b, off + i * 6 + 2, none⟩ = some (.string k1) ∧ w'.cell? ⟨b, off + i * 6 + 3, none⟩ = some (.slice u3 u3n u3c) ∧ w'.cell? ⟨b', off' + i * 6, none⟩ = some (.int .i64 n1) ∧ w'.cell? ⟨b', off' + i * 6 + 1, none⟩ = some (.int .i64 r1) ∧ w'.cell? ⟨b', off' + i * 6 + 2, none⟩ = some (.string k1) ∧ w'.cell? ⟨b', off' + i * 6 + 3, none⟩ = some (.slice v3 v3n v3c))) (by kernel_rfl) ?_
                change wpAnyH _ _ _ _ _ _ _ _ wa.drew
                refine held_take (i := 0) (v := .bool false) rfl (by kernel_rfl) (by kernel_rfl) (by kernel_rfl) (fun _ _ _ h => h) rfl (fun w' hS => by
                  obtain ⟨s0, s1, s2, s3, t0, t1, t2, t3⟩ := hS
                  go_simp) HSW ?_
                simp only [Act.put, List.setIfInBounds_toArray, List.set_cons_succ, List.set_cons_zero, List.getElem_toArray, List.getElem_cons_succ, List.getElem_cons_zero]
                refine held_take (i := 1) (v := .bool false) rfl (by kernel_rfl) (by kernel_rfl) (by kernel_rfl) (fun _ _ _ h => h) rfl (fun w' hS => by
                  obtain ⟨s0, s1, s2, s3, t0, t1, t2, t3⟩ := hS
                  go_simp) HSW ?_
                simp only [Act.put, List.setIfInBounds_toArray, List.set_cons_succ, List.set_cons_zero, List.getElem_toArray, List.getElem_cons_succ, List.getElem_cons_zero]
                refine held_take (i := 2) (v := (.slice (some ⟨b, off, none⟩) zl.length lc)) rfl (by kernel_rfl) (by kernel_rfl) (by kernel_rfl) (fun _ _ _ h => h) rfl (fun w' hS => by
                  obtain ⟨s0, s1, s2, s3, t0, t1, t2, t3⟩ := hS
                  go_simp) HSW ?_
                simp only [Act.put, List.setIfInBounds_toArray, List.set_cons_succ, List.set_cons_zero, List.getElem_toArray, List.getElem_cons_succ, List.getElem_cons_zero]
                refine held_take (i := 3) (v := (.int .i64 (i : Int))) rfl (by kernel_rfl) (by kernel_rfl) (by kernel_rfl) (fun _ _ _ h => h) rfl (fun w' hS => by
                  obtain ⟨s0, s1, s2, s3, t0, t1, t2, t3⟩ := hS
                  go_simp) HSW ?_
                simp only [Act.put, List.setIfInBounds_toArray, List.set_cons_succ, List.set_cons_zero, List.getElem_toArray, List.getElem_cons_succ, List.getElem_cons_zero]
                refine held_take (i := 4) (v := (.pointer (some ⟨b, off + i * 6, none⟩))) rfl (by kernel_rfl) (by kernel_rfl) (by kernel_rfl) (fun _ _ _ h => h) rfl (fun w' hS => by
                  obtain ⟨s0, s1, s2, s3, t0, t1, t2, t3⟩ := hS
                  go_simp) HSW ?_
                simp only [Act.put, List.setIfInBounds_toArray, List.set_cons_succ, List.set_cons_zero, List.getElem_toArray, List.getElem_cons_succ, List.getElem_cons_zero]
                refine held_take (i := 5) (v := (.pointer (some ⟨b, off + i * 6 + 2, none⟩))) rfl (by kernel_rfl) (by kernel_rfl) (by kernel_rfl) (fun _ _ _ h => h) rfl (fun w' hS => by
                  obtain ⟨s0, s1, s2, s3, t0, t1, t2, t3⟩ := hS
                  go_simp) HSW ?_
                simp only [Act.put, List.setIfInBounds_toArray, List.set_cons_succ, List.set_cons_zero, List.getElem_toArray, List.getElem_cons_succ, List.getElem_cons_zero]
                refine held_take (i := 6) (v := (.string k1)) rfl (by kernel_rfl) (by kernel_rfl) (by kernel_rfl) (fun _ _ _ h => h) rfl (fun w' hS => by
                  obtain ⟨s0, s1, s2, s3, t0, t1, t2, t3⟩ := hS
                  go_simp) HSW ?_
                simp only [Act.put, List.setIfInBounds_toArray, List.set_cons_succ, List.set_cons_zero, List.getElem_toArray, List.getElem_cons_succ, List.getElem_cons_zero]
                refine held_take (i := 7) (v := (.slice (some ⟨b', off', none⟩) zl.length lc')) rfl (by kernel_rfl) (by kernel_rfl) (by kernel_rfl) (fun _ _ _ h => h) rfl (fun w' hS => by
                  obtain ⟨s0, s1, s2, s3, t0, t1, t2, t3⟩ := hS
                  go_simp) HSW ?_
                simp only [Act.put, List.setIfInBounds_toArray, List.set_cons_succ, List.set_cons_zero, List.getElem_toArray, List.getElem_cons_succ, List.getElem_cons_zero]
                refine held_take (i := 8) (v := (.int .i64 (i : Int))) rfl (by kernel_rfl) (by kernel_rfl) (by kernel_rfl) (fun _ _ _ h => h) rfl (fun w' hS => by
                  obtain ⟨s0, s1, s2, s3, t0, t1, t2, t3⟩ := hS
                  go_simp) HSW ?_
                simp only [Act.put, List.setIfInBounds_toArray, List.set_cons_succ, List.set_cons_zero, List.getElem_toArray, List.getElem_cons_succ, List.getElem_cons_zero]
                refine held_take (i := 9) (v := (.pointer (some ⟨b', off' + i * 6, none⟩))) rfl (by kernel_rfl) (by kernel_rfl) (by kernel_rfl) (fun _ _ _ h => h) rfl (fun w' hS => by
                  obtain ⟨s0, s1, s2, s3, t0, t1, t2, t3⟩ := hS
                  go_simp) HSW ?_
                simp only [Act.put, List.setIfInBounds_toArray, List.set_cons_succ, List.set_cons_zero, List.getElem_toArray, List.getElem_cons_succ, List.getElem_cons_zero]
                refine held_take (i := 10) (v := (.pointer (some ⟨b', off' + i * 6 + 2, none⟩))) rfl (by kernel_rfl) (by kernel_rfl) (by kernel_rfl) (fun _ _ _ h => h) rfl (fun w' hS => by
                  obtain ⟨s0, s1, s2, s3, t0, t1, t2, t3⟩ := hS
                  go_simp) HSW ?_
                simp only [Act.put, List.setIfInBounds_toArray, List.set_cons_succ, List.set_cons_zero, List.getElem_toArray, List.getElem_cons_succ, List.getElem_cons_zero]
                refine held_take (i := 11) (v := (.string k1)) rfl (by kernel_rfl) (by kernel_rfl) (by kernel_rfl) (fun _ _ _ h => h) rfl (fun w' hS => by
                  obtain ⟨s0, s1, s2, s3, t0, t1, t2, t3⟩ := hS
                  go_simp) HSW ?_
                simp only [Act.put, List.setIfInBounds_toArray, List.set_cons_succ, List.set_cons_zero, List.getElem_toArray, List.getElem_cons_succ, List.getElem_cons_zero]
                refine held_take (i := 12) (v := (.bool true)) rfl (by kernel_rfl) (by kernel_rfl) (by kernel_rfl) (fun _ _ _ h => h) rfl (fun w' hS => by
                  obtain ⟨s0, s1, s2, s3, t0, t1, t2, t3⟩ := hS
                  go_simp) HSW ?_
                simp only [Act.put, List.setIfInBounds_toArray, List.set_cons_succ, List.set_cons_zero, List.getElem_toArray, List.getElem_cons_succ, List.getElem_cons_zero]
                refine held_take (i := 13) (v := .bool true) rfl (by kernel_rfl) (by kernel_rfl) (by kernel_rfl) (fun _ _ _ h => h) rfl (fun w' hS => by
                  obtain ⟨s0, s1, s2, s3, t0, t1, t2, t3⟩ := hS
                  go_simp) HSW ?_
                simp only [Act.put, List.setIfInBounds_toArray, List.set_cons_succ, List.set_cons_zero, List.getElem_toArray, List.getElem_cons_succ, List.getElem_cons_zero]
                refine held_take (i := 14) (v := .bool true) rfl (by kernel_rfl) (by kernel_rfl) (by kernel_rfl) (fun _ _ _ h => h) rfl (fun w' hS => by
                  obtain ⟨s0, s1, s2, s3, t0, t1, t2, t3⟩ := hS
                  go_simp) HSW ?_
                simp only [Act.put, List.setIfInBounds_toArray, List.set_cons_succ, List.set_cons_zero, List.getElem_toArray, List.getElem_cons_succ, List.getElem_cons_zero]
                refine held_skip (i := 15) rfl (by kernel_rfl) (by kernel_rfl) (by kernel_rfl) (fun _ _ _ h => h) rfl HSW ?_
                simp only [Act.put, List.setIfInBounds_toArray, List.set_cons_succ, List.set_cons_zero, List.getElem_toArray, List.getElem_cons_succ, List.getElem_cons_zero]
                refine held_skip (i := 16) rfl (by kernel_rfl) (by kernel_rfl) (by kernel_rfl) (fun _ _ _ h => h) rfl HSW ?_
                simp only [Act.put, List.setIfInBounds_toArray, List.set_cons_succ, List.set_cons_zero, List.getElem_toArray, List.getElem_cons_succ, List.getElem_cons_zero]
                refine held_take (i := 17) (v := .bool true) rfl (by kernel_rfl) (by kernel_rfl) (by kernel_rfl) (fun _ _ _ h => h) rfl (fun w' hS => by
                  obtain ⟨s0, s1, s2, s3, t0, t1, t2, t3⟩ := hS
                  go_simp) HSW ?_
                simp only [Act.put, List.setIfInBounds_toArray, List.set_cons_succ, List.set_cons_zero, List.getElem_toArray, List.getElem_cons_succ, List.getElem_cons_zero]
                refine held_take (i := 18) (v := .bool true) rfl (by kernel_rfl) (by kernel_rfl) (by kernel_rfl) (fun _ _ _ h => h) rfl (fun w' hS => by
                  obtain ⟨s0, s1, s2, s3, t0, t1, t2, t3⟩ := hS
                  go_simp) HSW ?_
                simp only [Act.put, List.setIfInBounds_toArray, List.set_cons_succ, List.set_cons_zero, List.getElem_toArray, List.getElem_cons_succ, List.getElem_cons_zero]
                refine held_skip (i := 19) rfl (by kernel_rfl) (by kernel_rfl) (by kernel_rfl) (fun _ _ _ h => h) rfl HSW ?_
                simp only [Act.put, List.setIfInBounds_toArray, List.set_cons_succ, List.set_cons_zero, List.getElem_toArray, List.getElem_cons_succ, List.getElem_cons_zero]
                refine held_skip (i := 20) rfl (by kernel_rfl) (by kernel_rfl) (by kernel_rfl) (fun _ _ _ h => h) rfl HSW ?_
                simp only [Act.put, List.setIfInBounds_toArray, List.set_cons_succ, List.set_cons_zero, List.getElem_toArray, List.getElem_cons_succ, List.getElem_cons_zero]
                refine held_skip (i := 21) rfl (by kernel_rfl) (by kernel_rfl) (by kernel_rfl) (fun _ _ _ h => h) rfl HSW ?_
                simp only [Act.put, List.setIfInBounds_toArray, List.set_cons_succ, List.set_cons_zero, List.getElem_toArray, List.getElem_cons_succ, List.getElem_cons_zero]
                refine held_skip (i := 22) rfl (by kernel_rfl) (by kernel_rfl) (by kernel_rfl) (fun _ _ _ h => h) rfl HSW ?_
                simp only [Act.put, List.setIfInBounds_toArray, List.set_cons_succ, List.set_cons_zero, List.getElem_toArray, List.getElem_cons_succ, List.getElem_cons_zero]
                refine held_skip (i := 23) rfl (by kernel_rfl) (by kernel_rfl) (by kernel_rfl) (fun _ _ _ h => h) rfl HSW ?_
                simp only [Act.put, List.setIfInBounds_toArray, List.set_cons_succ, List.set_cons_zero, List.getElem_toArray, List.getElem_cons_succ, List.getElem_cons_zero]
                refine held_skip (i := 24) rfl (by kernel_rfl) (by kernel_rfl) (by kernel_rfl) (fun _ _ _ h => h) rfl HSW ?_
                simp only [Act.put, List.setIfInBounds_toArray, List.set_cons_succ, List.set_cons_zero, List.getElem_toArray, List.getElem_cons_succ, List.getElem_cons_zero]
                refine held_take (i := 25) (v := .bool true) rfl (by kernel_rfl) (by kernel_rfl) (by kernel_rfl) (fun _ _ _ h => h) rfl (fun w' hS => by
                  obtain ⟨s0, s1, s2, s3, t0, t1, t2, t3⟩ := hS
                  go_simp) HSW ?_
                simp only [Act.put, List.setIfInBounds_toArray, List.set_cons_succ, List.set_cons_zero, List.getElem_toArray, List.getElem_cons_succ, List.getElem_cons_zero]
                refine held_take (i := 26) (v := .bool true) rfl (by kernel_rfl) (by kernel_rfl) (by kernel_rfl) (fun _ _ _ h => h) rfl (fun w' hS => by
                  obtain ⟨s0, s1, s2, s3, t0, t1, t2, t3⟩ := hS
                  go_simp) HSW ?_
                simp only [Act.put, List.setIfInBounds_toArray, List.set_cons_succ, List.set_cons_zero, List.getElem_toArray, List.getElem_cons_succ, List.getElem_cons_zero]
                refine wpAnyH_done (by kernel_rfl) ?_ _
                clear HSW
                go_wp2_with fail
                go_meet
                case rel => exact ⟨rfl, rfl⟩
              · have HNK : Hid (k1 ≠ k2) := Lib.hid hkk
                have gk := beqs hkk
                clear hkk
                cases kn
                case false =>
                  have HSW : (fun w' : World => w'.cell? ⟨b, off + i * 6, none⟩ = some (.int .i64 n1) ∧ w'.cell? ⟨b, off + i * 6 + 1, none⟩ = some (.int .i64 r1) ∧ w'.cell? ⟨b, off + i * 6 + 2, none⟩ = some (.string k1) ∧ w'.cell? ⟨b, off + i * 6 + 3, none⟩ = some (.slice u3 u3n u3c) ∧ w'.cell? ⟨b', off' + i * 6, none⟩ = some (.int .i64 n1) ∧ w'.cell? ⟨b', off' + i * 6 + 1, none⟩ = some (.int .i64 r1) ∧ w'.cell? ⟨b', off' + i * 6 + 2, none⟩ = some (.string k2) ∧ w'.cell? ⟨b', off' + i * 6 + 3, none⟩ = some (.slice v3 v3n v3c)) wa.drew := HSA.out
                  refine wp_region_held (S := (fun w' : World => w'.cell? ⟨b, off + i * 6, none⟩ = some (.int .i64 n1) ∧ w'.cell? ⟨b, off + i * 6 + 1, none⟩ = some (.int .i64 r1) ∧ w'.cell? ⟨b, off + i * 6 + 2, none⟩ = some (.string k1) ∧ w'.cell? ⟨b, off + i * 6 + 3, none⟩ = some (.slice u3 u3n u3c) ∧ w'.cell? ⟨b', off' + i * 6, none⟩ = some (.int .i64 n1) ∧ w'.cell? ⟨b', off' + i * 6 + 1, none⟩ = some (.int .i64 r1) ∧ w'.cell? ⟨b', off' + i * 6 + 2, none⟩ = some (.string k2) ∧ w'.cell? ⟨b', off' + i * 6 + 3, none⟩ = some (.slice v3 v3n v3c))) (by kernel_rfl) ?_
                  change wpAnyH _ _ _ _ _ _ _ _ wa.drew
                  refine held_take (i := 0) (v := .bool false) rfl (by kernel_rfl) (by kernel_rfl) (by kernel_rfl) (fun _ _ _ h => h) rfl (fun w' hS => by
                    obtain ⟨s0, s1, s2, s3, t0, t1, t2, t3⟩ := hS
                    go_simp) HSW ?_
                  simp only [Act.put, List.setIfInBounds_toArray, List.set_cons_succ, List.set_cons_zero, List.getElem_toArray, List.getElem_cons_succ, List.getElem_cons_zero]
                  refine held_take (i := 1) (v := .bool false) rfl (by kernel_rfl) (by kernel_rfl) (by kernel_rfl) (fun _ _ _ h => h) rfl (fun w' hS => by
                    obtain ⟨s0, s1, s2, s3, t0, t1, t2, t3⟩ := hS
                    go_simp) HSW ?_
                  simp only [Act.put, List.setIfInBounds_toArray, List.set_cons_succ, List.set_cons_zero, List.getElem_toArray, List.getElem_cons_succ, List.getElem_cons_zero]
                  refine held_take (i := 2) (v := (.slice (some ⟨b, off, none⟩) zl.length lc)) rfl (by kernel_rfl) (by kernel_rfl) (by kernel_rfl) (fun _ _ _ h => h) rfl (fun w' hS => by
                    obtain ⟨s0, s1, s2, s3, t0, t1, t2, t3⟩ := hS
                    go_simp) HSW ?_
                  simp only [Act.put, List.setIfInBounds_toArray, List.set_cons_succ, List.set_cons_zero, List.getElem_toArray, List.getElem_cons_succ, List.getElem_cons_zero]
                  refine held_take (i := 3) (v := (.int .i64 (i : Int))) rfl (by kernel_rfl) (by kernel_rfl) (by kernel_rfl) (fun _ _ _ h => h) rfl (fun w' hS => by
                    obtain ⟨s0, s1, s2, s3, t0, t1, t2, t3⟩ := hS
                    go_simp) HSW ?_
                  simp only [Act.put, List.setIfInBounds_toArray, List.set_cons_succ, List.set_cons_zero, List.getElem_toArray, List.getElem_cons_succ, List.getElem_cons_zero]
                  refine held_take (i := 4) (v := (.pointer (some ⟨b, off + i * 6, none⟩))) rfl (by kernel_rfl) (by kernel_rfl) (by kernel_rfl) (fun _ _ _ h => h) rfl (fun w' hS => by
                    obtain ⟨s0, s1, s2, s3, t0, t1, t2, t3⟩ := hS
                    go_simp) HSW ?_
                  simp only [Act.put, List.setIfInBounds_toArray, List.set_cons_succ, List.set_cons_zero, List.getElem_toArray, List.getElem_cons_succ, List.getElem_cons_zero]
                  refine held_take (i := 5) (v := (.pointer (some ⟨b, off + i * 6 + 2, none⟩))) rfl (by kernel_rfl) (by kernel_rfl) (by kernel_rfl) (fun _ _ _ h => h) rfl (fun w' hS => by
                    obtain ⟨s0, s1, s2, s3, t0, t1, t2, t3⟩ := hS
                    go_simp) HSW ?_
                  simp only [Act.put, List.setIfInBounds_toArray, List.set_cons_succ, List.set_cons_zero, List.getElem_toArray, List.getElem_cons_succ, List.getElem_cons_zero]
                  refine held_take (i := 6) (v := (.string k1)) rfl (by kernel_rfl) (by kernel_rfl) (by kernel_rfl) (fun _ _ _ h => h) rfl (fun w' hS => by
                    obtain ⟨s0, s1, s2, s3, t0, t1, t2, t3⟩ := hS
                    go_simp) HSW ?_
                  simp only [Act.put, List.setIfInBounds_toArray, List.set_cons_succ, List.set_cons_zero, List.getElem_toArray, List.getElem_cons_succ, List.getElem_cons_zero]
                  refine held_take (i := 7) (v := (.slice (some ⟨b', off', none⟩) zl.length lc')) rfl (by kernel_rfl) (by kernel_rfl) (by kernel_rfl) (fun _ _ _ h => h) rfl (fun w' hS => by
                    obtain ⟨s0, s1, s2, s3, t0, t1, t2, t3⟩ := hS
                    go_simp) HSW ?_
                  simp only [Act.put, List.setIfInBounds_toArray, List.set_cons_succ, List.set_cons_zero, List.getElem_toArray, List.getElem_cons_succ, List.getElem_cons_zero]
                  refine held_take (i := 8) (v := (.int .i64 (i : Int))) rfl (by kernel_rfl) (by kernel_rfl) (by kernel_rfl) (fun _ _ _ h => h) rfl (fun w' hS => by
                    obtain ⟨s0, s1, s2, s3, t0, t1, t2, t3⟩ := hS
                    go_simp) HSW ?_
                  simp only [Act.put, List.setIfInBounds_toArray, List.set_cons_succ, List.set_cons_zero, List.getElem_toArray, List.getElem_cons_succ, List.getElem_cons_zero]
                  refine held_take (i := 9) (v := (.pointer (some ⟨b', off' + i * 6, none⟩))) rfl (by kernel_rfl) (by kernel_rfl) (by kernel_rfl) (fun _ _ _ h => h) rfl (fun w' hS => by
                    obtain ⟨s0, s1, s2, s3, t0, t1, t2, t3⟩ := hS
                    go_simp) HSW ?_
                  simp only [Act.put, List.setIfInBounds_toArray, List.set_cons_succ, List.set_cons_zero, List.getElem_toArray, List.getElem_cons_succ, List.getElem_cons_zero]
                  refine held_take (i := 10) (v := (.pointer (some ⟨b', off' + i * 6 + 2, none⟩))) rfl (by kernel_rfl) (by kernel_rfl) (by kernel_rfl) (fun _ _ _ h => h) rfl (fun w' hS => by
                    obtain ⟨s0, s1, s2, s3, t0, t1, t2, t3⟩ := hS
                    go_simp) HSW ?_
                  simp only [Act.put, List.setIfInBounds_toArray, List.set_cons_succ, List.set_cons_zero, List.getElem_toArray, List.getElem_cons_succ, List.getElem_cons_zero]
                  refine held_take (i := 11) (v := (.string k2)) rfl (by kernel_rfl) (by kernel_rfl) (by kernel_rfl) (fun _ _ _ h => h) rfl (fun w' hS => by
                    obtain ⟨s0, s1, s2, s3, t0, t1, t2, t3⟩ := hS
                    go_simp) HSW ?_
                  simp only [Act.put, List.setIfInBounds_toArray, List.set_cons_succ, List.set_cons_zero, List.getElem_toArray, List.getElem_cons_succ, List.getElem_cons_zero]
                  refine held_take (i := 12) (v := (.bool false)) rfl (by kernel_rfl) (by kernel_rfl) (by kernel_rfl) (fun _ _ _ h => h) rfl (fun w' hS => by
                    obtain ⟨s0, s1, s2, s3, t0, t1, t2, t3⟩ := hS
                    go_simp) HSW ?_
                  simp only [Act.put, List.setIfInBounds_toArray, List.set_cons_succ, List.set_cons_zero, List.getElem_toArray, List.getElem_cons_succ, List.getElem_cons_zero]
                  refine held_take (i := 13) (v := .bool false) rfl (by kernel_rfl) (by kernel_rfl) (by kernel_rfl) (fun _ _ _ h => h) rfl (fun w' hS => by
                    obtain ⟨s0, s1, s2, s3, t0, t1, t2, t3⟩ := hS
                    go_simp) HSW ?_
                  simp only [Act.put, List.setIfInBounds_toArray, List.set_cons_succ, List.set_cons_zero, List.getElem_toArray, List.getElem_cons_succ, List.getElem_cons_zero]
                  refine held_take (i := 14) (v := .bool false) rfl (by kernel_rfl) (by kernel_rfl) (by kernel_rfl) (fun _ _ _ h => h) rfl (fun w' hS => by
                    obtain ⟨s0, s1, s2, s3, t0, t1, t2, t3⟩ := hS
                    go_simp) HSW ?_
                  simp only [Act.put, List.setIfInBounds_toArray, List.set_cons_succ, List.set_cons_zero, List.getElem_toArray, List.getElem_cons_succ, List.getElem_cons_zero]
                  refine held_take (i := 15) (v := .bool false) rfl (by kernel_rfl) (by kernel_rfl) (by kernel_rfl) (fun _ _ _ h => h) rfl (fun w' hS => by
                    obtain ⟨s0, s1, s2, s3, t0, t1, t2, t3⟩ := hS
                    go_simp) HSW ?_
                  simp only [Act.put, List.setIfInBounds_toArray, List.set_cons_succ, List.set_cons_zero, List.getElem_toArray, List.getElem_cons_succ, List.getElem_cons_zero]
                  refine held_take (i := 16) (v := .bool true) rfl (by kernel_rfl) (by kernel_rfl) (by kernel_rfl) (fun _ _ _ h => h) rfl (fun w' hS => by
                    obtain ⟨s0, s1, s2, s3, t0, t1, t2, t3⟩ := hS
                    go_simp) HSW ?_
                  simp only [Act.put, List.setIfInBounds_toArray, List.set_cons_succ, List.set_cons_zero, List.getElem_toArray, List.getElem_cons_succ, List.getElem_cons_zero]
                  refine held_take (i := 17) (v := .bool true) rfl (by kernel_rfl) (by kernel_rfl) (by kernel_rfl) (fun _ _ _ h => h) rfl (fun w' hS => by
                    obtain ⟨s0, s1, s2, s3, t0, t1, t2, t3⟩ := hS
                    go_simp) HSW ?_
                  simp only [Act.put, List.setIfInBounds_toArray, List.set_cons_succ, List.set_cons_zero, List.getElem_toArray, List.getElem_cons_succ, List.getElem_cons_zero]
                  refine held_take (i := 18) (v := .bool true) rfl (by kernel_rfl) (by kernel_rfl) (by kernel_rfl) (fun _ _ _ h => h) rfl (fun w' hS => by
                    obtain ⟨s0, s1, s2, s3, t0, t1, t2, t3⟩ := hS
                    go_simp) HSW ?_
                  simp only [Act.put, List.setIfInBounds_toArray, List.set_cons_succ, List.set_cons_zero, List.getElem_toArray, List.getElem_cons_succ, List.getElem_cons_zero]
                  refine held_skip (i := 19) rfl (by kernel_rfl) (by kernel_rfl) (by kernel_rfl) (fun _ _ _ h => h) rfl HSW ?_
                  simp only [Act.put, List.setIfInBounds_toArray, List.set_cons_succ, List.set_cons_zero, List.getElem_toArray, List.getElem_cons_succ, List.getElem_cons_zero]
                  refine held_skip (i := 20) rfl (by kernel_rfl) (by kernel_rfl) (by kernel_rfl) (fun _ _ _ h => h) rfl HSW ?_
                  simp only [Act.put, List.setIfInBounds_toArray, List.set_cons_succ, List.set_cons_zero, List.getElem_toArray, List.getElem_cons_succ, List.getElem_cons_zero]
                  refine held_skip (i := 21) rfl (by kernel_rfl) (by kernel_rfl) (by kernel_rfl) (fun _ _ _ h => h) rfl HSW ?_
                  simp only [Act.put, List.setIfInBounds_toArray, List.set_cons_succ, List.set_cons_zero, List.getElem_toArray, List.getElem_cons_succ, List.getElem_cons_zero]
                  refine held_skip (i := 22) rfl (by kernel_rfl) (by kernel_rfl) (by kernel_rfl) (fun _ _ _ h => h) rfl HSW ?_
                  simp only [Act.put, List.setIfInBounds_toArray, List.set_cons_succ, List.set_cons_zero, List.getElem_toArray, List.getElem_cons_succ, List.getElem_cons_zero]
                  refine held_skip (i := 23) rfl (by kernel_rfl) (by kernel_rfl) (by kernel_rfl) (fun _ _ _ h => h) rfl HSW ?_
                  simp only [Act.put, List.setIfInBounds_toArray, List.set_cons_succ, List.set_cons_zero, List.getElem_toArray, List.getElem_cons_succ, List.getElem_cons_zero]
                  refine held_skip (i := 24) rfl (by kernel_rfl) (by kernel_rfl) (by kernel_rfl) (fun _ _ _ h => h) rfl HSW ?_
                  simp only [Act.put, List.setIfInBounds_toArray, List.set_cons_succ, List.set_cons_zero, List.getElem_toArray, List.getElem_cons_succ, List.getElem_cons_zero]
                  refine held_take (i := 25) (v := .bool true) rfl (by kernel_rfl) (by kernel_rfl) (by kernel_rfl) (fun _ _ _ h => h) rfl (fun w' hS => by
                    obtain ⟨s0, s1, s2, s3, t0, t1, t2, t3⟩ := hS
                    go_simp) HSW ?_
                  simp only [Act.put, List.setIfInBounds_toArray, List.set_cons_succ, List.set_cons_zero, List.getElem_toArray, List.getElem_cons_succ, List.getElem_cons_zero]
                  refine held_take (i := 26) (v := .bool true) rfl (by kernel_rfl) (by kernel_rfl) (by kernel_rfl) (fun _ _ _ h => h) rfl (fun w' hS => by
                    obtain ⟨s0, s1, s2, s3, t0, t1, t2, t3⟩ := hS
                    go_simp) HSW ?_
                  simp only [Act.put, List.setIfInBounds_toArray, List.set_cons_succ, List.set_cons_zero, List.getElem_toArray, List.getElem_cons_succ, List.getElem_cons_zero]
                  refine wpAnyH_done (by kernel_rfl) ?_ _
                  clear HSW
                  go_wp2_with fail
                  go_meet
                  case rel => exact ⟨rfl, rfl⟩
                case true =>
                  obtain rfl := not_kept HKE.out (HRT.out rfl) HNK.out HKN.out
                  have gk3 : ¬ ([100, 111, 99] : List UInt8) = k2.toList := fun e => by
                    have h2 := beq_eq_false_iff_ne.1 gk
                    exact h2 (by rw [ByteArray.toList_eq]; exact e)
                  have HSW : (fun w' : World => w'.cell? ⟨b, off + i * 6, none⟩ = some (.int .i64 n1) ∧ w'.cell? ⟨b, off + i * 6 + 1, none⟩ = some (.int .i64 r1) ∧ w'.cell? ⟨b, off + i * 6 + 2, none⟩ = some (.string sDoc) ∧ w'.cell? ⟨b, off + i * 6 + 3, none⟩ = some (.slice u3 u3n u3c) ∧ w'.cell? ⟨b', off' + i * 6, none⟩ = some (.int .i64 n1) ∧ w'.cell? ⟨b', off' + i * 6 + 1, none⟩ = some (.int .i64 r1) ∧ w'.cell? ⟨b', off' + i * 6 + 2, none⟩ = some (.string k2) ∧ w'.cell? ⟨b', off' + i * 6 + 3, none⟩ = some (.slice v3 v3n v3c)) wa.drew := HSA.out
                  refine wp_region_held (S := (fun w' : World => w'.cell? ⟨b, off + i * 6, none⟩ = some (.int .i64 n1) ∧ w'.cell? ⟨b, off + i * 6 + 1, none⟩ = some (.int .i64 r1) ∧ w'.cell? ⟨b, off + i * 6 + 2, none⟩ = some (.string sDoc) ∧ w'.cell? ⟨b, off + i * 6 + 3, none⟩ = some (.slice u3 u3n u3c) ∧ w'.cell? ⟨b', off' + i * 6, none⟩ = some (.int .i64 n1) ∧ w'.cell? ⟨b', off' + i * 6 + 1, none⟩ = some (.int .i64 r1) ∧ w'.cell? ⟨b', off' + i * 6 + 2, none⟩ = some (.string k2) ∧ w'.cell? ⟨b', off' + i * 6 + 3, none⟩ = some (.slice v3 v3n v3c))) (by kernel_rfl) ?_
                  change wpAnyH _ _ _ _ _ _ _ _ wa.drew
                  refine held_take (i := 0) (v := .bool false) rfl (by kernel_rfl) (by kernel_rfl) (by kernel_rfl) (fun _ _ _ h => h) rfl (fun w' hS => by
                    obtain ⟨s0, s1, s2, s3, t0, t1, t2, t3⟩ := hS
                    go_simp) HSW ?_
                  simp only [Act.put, List.setIfInBounds_toArray, List.set_cons_succ, List.set_cons_zero, List.getElem_toArray, List.getElem_cons_succ, List.getElem_cons_zero]
                  refine held_take (i := 1) (v := .bool false) rfl (by kernel_rfl) (by kernel_rfl) (by kernel_rfl) (fun _ _ _ h => h) rfl (fun w' hS => by
                    obtain ⟨s0, s1, s2, s3, t0, t1, t2, t3⟩ := hS
                    go_simp) HSW ?_
                  simp only [Act.put, List.setIfInBounds_toArray, List.set_cons_succ, List.set_cons_zero, List.getElem_toArray, List.getElem_cons_succ, List.getElem_cons_zero]
                  refine held_take (i := 2) (v := (.slice (some ⟨b, off, none⟩) zl.length lc)) rfl (by kernel_rfl) (by kernel_rfl) (by kernel_rfl) (fun _ _ _ h => h) rfl (fun w' hS => by
                    obtain ⟨s0, s1, s2, s3, t0, t1, t2, t3⟩ := hS
                    go_simp) HSW ?_
                  simp only [Act.put, List.setIfInBounds_toArray, List.set_cons_succ, List.set_cons_zero, List.getElem_toArray, List.getElem_cons_succ, List.getElem_cons_zero]
                  refine held_take (i := 3) (v := (.int .i64 (i : Int))) rfl (by kernel_rfl) (by kernel_rfl) (by kernel_rfl) (fun _ _ _ h => h) rfl (fun w' hS => by
                    obtain ⟨s0, s1, s2, s3, t0, t1, t2, t3⟩ := hS
                    go_simp) HSW ?_
                  simp only [Act.put, List.setIfInBounds_toArray, List.set_cons_succ, List.set_cons_zero, List.getElem_toArray, List.getElem_cons_succ, List.getElem_cons_zero]
                  refine held_take (i := 4) (v := (.pointer (some ⟨b, off + i * 6, none⟩))) rfl (by kernel_rfl) (by kernel_rfl) (by kernel_rfl) (fun _ _ _ h => h) rfl (fun w' hS => by
                    obtain ⟨s0, s1, s2, s3, t0, t1, t2, t3⟩ := hS
                    go_simp) HSW ?_
                  simp only [Act.put, List.setIfInBounds_toArray, List.set_cons_succ, List.set_cons_zero, List.getElem_toArray, List.getElem_cons_succ, List.getElem_cons_zero]
                  refine held_take (i := 5) (v := (.pointer (some ⟨b, off + i * 6 + 2, none⟩))) rfl (by kernel_rfl) (by kernel_rfl) (by kernel_rfl) (fun _ _ _ h => h) rfl (fun w' hS => by
                    obtain ⟨s0, s1, s2, s3, t0, t1, t2, t3⟩ := hS
                    go_simp) HSW ?_
                  simp only [Act.put, List.setIfInBounds_toArray, List.set_cons_succ, List.set_cons_zero, List.getElem_toArray, List.getElem_cons_succ, List.getElem_cons_zero]
                  refine held_take (i := 6) (v := (.string sDoc)) rfl (by kernel_rfl) (by kernel_rfl) (by kernel_rfl) (fun _ _ _ h => h) rfl (fun w' hS => by
                    obtain ⟨s0, s1, s2, s3, t0, t1, t2, t3⟩ := hS
                    go_simp) HSW ?_
                  simp only [Act.put, List.setIfInBounds_toArray, List.set_cons_succ, List.set_cons_zero, List.getElem_toArray, List.getElem_cons_succ, List.getElem_cons_zero]
                  refine held_take (i := 7) (v := (.slice (some ⟨b', off', none⟩) zl.length lc')) rfl (by kernel_rfl) (by kernel_rfl) (by kernel_rfl) (fun _ _ _ h => h) rfl (fun w' hS => by
                    obtain ⟨s0, s1, s2, s3, t0, t1, t2, t3⟩ := hS
                    go_simp) HSW ?_
                  simp only [Act.put, List.setIfInBounds_toArray, List.set_cons_succ, List.set_cons_zero, List.getElem_toArray, List.getElem_cons_succ, List.getElem_cons_zero]
                  refine held_take (i := 8) (v := (.int .i64 (i : Int))) rfl (by kernel_rfl) (by kernel_rfl) (by kernel_rfl) (fun _ _ _ h => h) rfl (fun w' hS => by
                    obtain ⟨s0, s1, s2, s3, t0, t1, t2, t3⟩ := hS
                    go_simp) HSW ?_
                  simp only [Act.put, List.setIfInBounds_toArray, List.set_cons_succ, List.set_cons_zero, List.getElem_toArray, List.getElem_cons_succ, List.getElem_cons_zero]
                  refine held_take (i := 9) (v := (.pointer (some ⟨b', off' + i * 6, none⟩))) rfl (by kernel_rfl) (by kernel_rfl) (by kernel_rfl) (fun _ _ _ h => h) rfl (fun w' hS => by
                    obtain ⟨s0, s1, s2, s3, t0, t1, t2, t3⟩ := hS
                    go_simp) HSW ?_
                  simp only [Act.put, List.setIfInBounds_toArray, List.set_cons_succ, List.set_cons_zero, List.getElem_toArray, List.getElem_cons_succ, List.getElem_cons_zero]
                  refine held_take (i := 10) (v := (.pointer (some ⟨b', off' + i * 6 + 2, none⟩))) rfl (by kernel_rfl) (by kernel_rfl) (by kernel_rfl) (fun _ _ _ h => h) rfl (fun w' hS => by
                    obtain ⟨s0, s1, s2, s3, t0, t1, t2, t3⟩ := hS
                    go_simp) HSW ?_
                  simp only [Act.put, List.setIfInBounds_toArray, List.set_cons_succ, List.set_cons_zero, List.getElem_toArray, List.getElem_cons_succ, List.getElem_cons_zero]
                  refine held_take (i := 11) (v := (.string k2)) rfl (by kernel_rfl) (by kernel_rfl) (by kernel_rfl) (fun _ _ _ h => h) rfl (fun w' hS => by
                    obtain ⟨s0, s1, s2, s3, t0, t1, t2, t3⟩ := hS
                    go_simp) HSW ?_
                  simp only [Act.put, List.setIfInBounds_toArray, List.set_cons_succ, List.set_cons_zero, List.getElem_toArray, List.getElem_cons_succ, List.getElem_cons_zero]
                  refine held_take (i := 12) (v := (.bool false)) rfl (by kernel_rfl) (by kernel_rfl) (by kernel_rfl) (fun _ _ _ h => h) rfl (fun w' hS => by
                    obtain ⟨s0, s1, s2, s3, t0, t1, t2, t3⟩ := hS
                    go_simp) HSW ?_
                  simp only [Act.put, List.setIfInBounds_toArray, List.set_cons_succ, List.set_cons_zero, List.getElem_toArray, List.getElem_cons_succ, List.getElem_cons_zero]
                  refine held_take (i := 13) (v := .bool false) rfl (by kernel_rfl) (by kernel_rfl) (by kernel_rfl) (fun _ _ _ h => h) rfl (fun w' hS => by
                    obtain ⟨s0, s1, s2, s3, t0, t1, t2, t3⟩ := hS
                    go_simp) HSW ?_
                  simp only [Act.put, List.setIfInBounds_toArray, List.set_cons_succ, List.set_cons_zero, List.getElem_toArray, List.getElem_cons_succ, List.getElem_cons_zero]
                  refine held_take (i := 14) (v := .bool false) rfl (by kernel_rfl) (by kernel_rfl) (by kernel_rfl) (fun _ _ _ h => h) rfl (fun w' hS => by
                    obtain ⟨s0, s1, s2, s3, t0, t1, t2, t3⟩ := hS
                    go_simp) HSW ?_
                  simp only [Act.put, List.setIfInBounds_toArray, List.set_cons_succ, List.set_cons_zero, List.getElem_toArray, List.getElem_cons_succ, List.getElem_cons_zero]
                  refine held_take (i := 15) (v := .bool true) rfl (by kernel_rfl) (by kernel_rfl) (by kernel_rfl) (fun _ _ _ h => h) rfl (fun w' hS => by
                    obtain ⟨s0, s1, s2, s3, t0, t1, t2, t3⟩ := hS
                    go_simp) HSW ?_
                  simp only [Act.put, List.setIfInBounds_toArray, List.set_cons_succ, List.set_cons_zero, List.getElem_toArray, List.getElem_cons_succ, List.getElem_cons_zero]
                  refine held_take (i := 16) (v := .bool false) rfl (by kernel_rfl) (by kernel_rfl) (by kernel_rfl) (fun _ _ _ h => h) rfl (fun w' hS => by
                    obtain ⟨s0, s1, s2, s3, t0, t1, t2, t3⟩ := hS
                    go_simp) HSW ?_
                  simp only [Act.put, List.setIfInBounds_toArray, List.set_cons_succ, List.set_cons_zero, List.getElem_toArray, List.getElem_cons_succ, List.getElem_cons_zero]
                  refine held_take (i := 17) (v := .bool false) rfl (by kernel_rfl) (by kernel_rfl) (by kernel_rfl) (fun _ _ _ h => h) rfl (fun w' hS => by
                    obtain ⟨s0, s1, s2, s3, t0, t1, t2, t3⟩ := hS
                    go_simp) HSW ?_
                  simp only [Act.put, List.setIfInBounds_toArray, List.set_cons_succ, List.set_cons_zero, List.getElem_toArray, List.getElem_cons_succ, List.getElem_cons_zero]
                  refine held_take (i := 18) (v := .bool false) rfl (by kernel_rfl) (by kernel_rfl) (by kernel_rfl) (fun _ _ _ h => h) rfl (fun w' hS => by
                    obtain ⟨s0, s1, s2, s3, t0, t1, t2, t3⟩ := hS
                    go_simp) HSW ?_
                  simp only [Act.put, List.setIfInBounds_toArray, List.set_cons_succ, List.set_cons_zero, List.getElem_toArray, List.getElem_cons_succ, List.getElem_cons_zero]
                  refine held_take (i := 19) (v := (.slice (some ⟨b, off, none⟩) zl.length lc)) rfl (by kernel_rfl) (by kernel_rfl) (by kernel_rfl) (fun _ _ _ h => h) rfl (fun w' hS => by
                    obtain ⟨s0, s1, s2, s3, t0, t1, t2, t3⟩ := hS
                    go_simp) HSW ?_
                  simp only [Act.put, List.setIfInBounds_toArray, List.set_cons_succ, List.set_cons_zero, List.getElem_toArray, List.getElem_cons_succ, List.getElem_cons_zero]
                  refine held_take (i := 20) (v := (.int .i64 (i : Int))) rfl (by kernel_rfl) (by kernel_rfl) (by kernel_rfl) (fun _ _ _ h => h) rfl (fun w' hS => by
                    obtain ⟨s0, s1, s2, s3, t0, t1, t2, t3⟩ := hS
                    go_simp) HSW ?_
                  simp only [Act.put, List.setIfInBounds_toArray, List.set_cons_succ, List.set_cons_zero, List.getElem_toArray, List.getElem_cons_succ, List.getElem_cons_zero]
                  refine held_take (i := 21) (v := (.pointer (some ⟨b, off + i * 6, none⟩))) rfl (by kernel_rfl) (by kernel_rfl) (by kernel_rfl) (fun _ _ _ h => h) rfl (fun w' hS => by
                    obtain ⟨s0, s1, s2, s3, t0, t1, t2, t3⟩ := hS
                    go_simp) HSW ?_
                  simp only [Act.put, List.setIfInBounds_toArray, List.set_cons_succ, List.set_cons_zero, List.getElem_toArray, List.getElem_cons_succ, List.getElem_cons_zero]
                  refine held_take (i := 22) (v := (.pointer (some ⟨b, off + i * 6 + 2, none⟩))) rfl (by kernel_rfl) (by kernel_rfl) (by kernel_rfl) (fun _ _ _ h => h) rfl (fun w' hS => by
                    obtain ⟨s0, s1, s2, s3, t0, t1, t2, t3⟩ := hS
                    go_simp) HSW ?_
                  simp only [Act.put, List.setIfInBounds_toArray, List.set_cons_succ, List.set_cons_zero, List.getElem_toArray, List.getElem_cons_succ, List.getElem_cons_zero]
                  refine held_take (i := 23) (v := (.string sDoc)) rfl (by kernel_rfl) (by kernel_rfl) (by kernel_rfl) (fun _ _ _ h => h) rfl (fun w' hS => by
                    obtain ⟨s0, s1, s2, s3, t0, t1, t2, t3⟩ := hS
                    go_simp) HSW ?_
                  simp only [Act.put, List.setIfInBounds_toArray, List.set_cons_succ, List.set_cons_zero, List.getElem_toArray, List.getElem_cons_succ, List.getElem_cons_zero]
                  refine held_take (i := 24) (v := (.bool true)) rfl (by kernel_rfl) (by kernel_rfl) (by kernel_rfl) (fun _ _ _ h => h) rfl (fun w' hS => by
                    obtain ⟨s0, s1, s2, s3, t0, t1, t2, t3⟩ := hS
                    go_simp) HSW ?_
                  simp only [Act.put, List.setIfInBounds_toArray, List.set_cons_succ, List.set_cons_zero, List.getElem_toArray, List.getElem_cons_succ, List.getElem_cons_zero]
                  refine held_take (i := 25) (v := .bool true) rfl (by kernel_rfl) (by kernel_rfl) (by kernel_rfl) (fun _ _ _ h => h) rfl (fun w' hS => by
                    obtain ⟨s0, s1, s2, s3, t0, t1, t2, t3⟩ := hS
                    go_simp) HSW ?_
                  simp only [Act.put, List.setIfInBounds_toArray, List.set_cons_succ, List.set_cons_zero, List.getElem_toArray, List.getElem_cons_succ, List.getElem_cons_zero]
                  refine held_take (i := 26) (v := .bool true) rfl (by kernel_rfl) (by kernel_rfl) (by kernel_rfl) (fun _ _ _ h => h) rfl (fun w' hS => by
                    obtain ⟨s0, s1, s2, s3, t0, t1, t2, t3⟩ := hS
                    go_simp) HSW ?_
                  simp only [Act.put, List.setIfInBounds_toArray, List.set_cons_succ, List.set_cons_zero, List.getElem_toArray, List.getElem_cons_succ, List.getElem_cons_zero]
                  refine wpAnyH_done (by kernel_rfl) ?_ _
                  clear HSW
                  go_wp2_with fail
                  go_meet
                  case rel => exact ⟨rfl, rfl⟩
          case rest =>
            obtain ⟨rfl, hwc⟩ := hcut
            obtain rfl := hwc
            go_upto_region 16 with fail
            have HSW : (fun w' : World => w'.cell? ⟨b, off + i * 6, none⟩ = some (.int .i64 n1) ∧ w'.cell? ⟨b, off + i * 6 + 1, none⟩ = some (.int .i64 r1) ∧ w'.cell? ⟨b, off + i * 6 + 2, none⟩ = some (.string k1) ∧ w'.cell? ⟨b, off + i * 6 + 3, none⟩ = some (.slice u3 u3n u3c) ∧ w'.cell? ⟨b', off' + i * 6, none⟩ = some (.int .i64 n1) ∧ w'.cell? ⟨b', off' + i * 6 + 1, none⟩ = some (.int .i64 r1) ∧ w'.cell? ⟨b', off' + i * 6 + 2, none⟩ = some (.string k2) ∧ w'.cell? ⟨b', off' + i * 6 + 3, none⟩ = some (.slice v3 v3n v3c)) wa.drew.drew := HSA.out
            refine wp_region_held (S := (fun w' : World => w'.cell? ⟨b, off + i * 6, none⟩ = some (.int .i64 n1) ∧ w'.cell? ⟨b, off + i * 6 + 1, none⟩ = some (.int .i64 r1) ∧ w'.cell? ⟨b, off + i * 6 + 2, none⟩ = some (.string k1) ∧ w'.cell? ⟨b, off + i * 6 + 3, none⟩ = some (.slice u3 u3n u3c) ∧ w'.cell? ⟨b', off' + i * 6, none⟩ = some (.int .i64 n1) ∧ w'.cell? ⟨b', off' + i * 6 + 1, none⟩ = some (.int .i64 r1) ∧ w'.cell? ⟨b', off' + i * 6 + 2, none⟩ = some (.string k2) ∧ w'.cell? ⟨b', off' + i * 6 + 3, none⟩ = some (.slice v3 v3n v3c))) (by kernel_rfl) ?_
            change wpAnyH _ _ _ _ _ _ _ _ wa.drew.drew
            refine held_take (i := 0) (v := (.slice (some ⟨b, off, none⟩) zl.length lc)) rfl (by kernel_rfl) (by kernel_rfl) (by kernel_rfl) (fun _ _ _ h => h) rfl (fun w' hS => by
              obtain ⟨s0, s1, s2, s3, t0, t1, t2, t3⟩ := hS
              go_simp) HSW ?_
            simp only [Act.put, List.setIfInBounds_toArray, List.set_cons_succ, List.set_cons_zero, List.getElem_toArray, List.getElem_cons_succ, List.getElem_cons_zero]
            refine held_take (i := 1) (v := (.int .i64 (i : Int))) rfl (by kernel_rfl) (by kernel_rfl) (by kernel_rfl) (fun _ _ _ h => h) rfl (fun w' hS => by
              obtain ⟨s0, s1, s2, s3, t0, t1, t2, t3⟩ := hS
              go_simp) HSW ?_
            simp only [Act.put, List.setIfInBounds_toArray, List.set_cons_succ, List.set_cons_zero, List.getElem_toArray, List.getElem_cons_succ, List.getElem_cons_zero]
            refine held_take (i := 2) (v := (.pointer (some ⟨b, off + i * 6, none⟩))) rfl (by kernel_rfl) (by kernel_rfl) (by kernel_rfl) (fun _ _ _ h => h) rfl (fun w' hS => by
              obtain ⟨s0, s1, s2, s3, t0, t1, t2, t3⟩ := hS
              go_simp) HSW ?_
            simp only [Act.put, List.setIfInBounds_toArray, List.set_cons_succ, List.set_cons_zero, List.getElem_toArray, List.getElem_cons_succ, List.getElem_cons_zero]
            refine held_take (i := 3) (v := (.pointer (some ⟨b, off + i * 6, none⟩))) rfl (by kernel_rfl) (by kernel_rfl) (by kernel_rfl) (fun _ _ _ h => h) rfl (fun w' hS => by
              obtain ⟨s0, s1, s2, s3, t0, t1, t2, t3⟩ := hS
              go_simp) HSW ?_
            simp only [Act.put, List.setIfInBounds_toArray, List.set_cons_succ, List.set_cons_zero, List.getElem_toArray, List.getElem_cons_succ, List.getElem_cons_zero]
            refine held_take (i := 4) (v := (.agg #[.int .i64 n1, .int .i64 r1])) rfl (by kernel_rfl) (by kernel_rfl) (by kernel_rfl) (fun _ _ _ h => h) rfl (fun w' hS => by
              obtain ⟨s0, s1, s2, s3, t0, t1, t2, t3⟩ := hS
              go_simp) HSW ?_
            simp only [Act.put, List.setIfInBounds_toArray, List.set_cons_succ, List.set_cons_zero, List.getElem_toArray, List.getElem_cons_succ, List.getElem_cons_zero]
            refine held_take (i := 5) (v := (.slice (some ⟨b', off', none⟩) zl.length lc')) rfl (by kernel_rfl) (by kernel_rfl) (by kernel_rfl) (fun _ _ _ h => h) rfl (fun w' hS => by
              obtain ⟨s0, s1, s2, s3, t0, t1, t2, t3⟩ := hS
              go_simp) HSW ?_
            simp only [Act.put, List.setIfInBounds_toArray, List.set_cons_succ, List.set_cons_zero, List.getElem_toArray, List.getElem_cons_succ, List.getElem_cons_zero]
            refine held_take (i := 6) (v := (.int .i64 (i : Int))) rfl (by kernel_rfl) (by kernel_rfl) (by kernel_rfl) (fun _ _ _ h => h) rfl (fun w' hS => by
              obtain ⟨s0, s1, s2, s3, t0, t1, t2, t3⟩ := hS
              go_simp) HSW ?_
            simp only [Act.put, List.setIfInBounds_toArray, List.set_cons_succ, List.set_cons_zero, List.getElem_toArray, List.getElem_cons_succ, List.getElem_cons_zero]
            refine held_take (i := 7) (v := (.pointer (some ⟨b', off' + i * 6, none⟩))) rfl (by kernel_rfl) (by kernel_rfl) (by kernel_rfl) (fun _ _ _ h => h) rfl (fun w' hS => by
              obtain ⟨s0, s1, s2, s3, t0, t1, t2, t3⟩ := hS
              go_simp) HSW ?_
            simp only [Act.put, List.setIfInBounds_toArray, List.set_cons_succ, List.set_cons_zero, List.getElem_toArray, List.getElem_cons_succ, List.getElem_cons_zero]
            refine held_take (i := 8) (v := (.pointer (some ⟨b', off' + i * 6, none⟩))) rfl (by kernel_rfl) (by kernel_rfl) (by kernel_rfl) (fun _ _ _ h => h) rfl (fun w' hS => by
              obtain ⟨s0, s1, s2, s3, t0, t1, t2, t3⟩ := hS
              go_simp) HSW ?_
            simp only [Act.put, List.setIfInBounds_toArray, List.set_cons_succ, List.set_cons_zero, List.getElem_toArray, List.getElem_cons_succ, List.getElem_cons_zero]
            refine held_take (i := 9) (v := (.agg #[.int .i64 n1, .int .i64 r1])) rfl (by kernel_rfl) (by kernel_rfl) (by kernel_rfl) (fun _ _ _ h => h) rfl (fun w' hS => by
              obtain ⟨s0, s1, s2, s3, t0, t1, t2, t3⟩ := hS
              go_simp) HSW ?_
            simp only [Act.put, List.setIfInBounds_toArray, List.set_cons_succ, List.set_cons_zero, List.getElem_toArray, List.getElem_cons_succ, List.getElem_cons_zero]
            refine held_take (i := 10) (v := (.bool false)) rfl (by kernel_rfl) (by kernel_rfl) (by kernel_rfl) (fun _ _ _ h => h) rfl (fun w' hS => by
              obtain ⟨s0, s1, s2, s3, t0, t1, t2, t3⟩ := hS
              go_simp) HSW ?_
            simp only [Act.put, List.setIfInBounds_toArray, List.set_cons_succ, List.set_cons_zero, List.getElem_toArray, List.getElem_cons_succ, List.getElem_cons_zero]
            refine held_take (i := 11) (v := (.bool false)) rfl (by kernel_rfl) (by kernel_rfl) (by kernel_rfl) (fun _ _ _ h => h) rfl (fun w' hS => by
              obtain ⟨s0, s1, s2, s3, t0, t1, t2, t3⟩ := hS
              go_simp) HSW ?_
            simp only [Act.put, List.setIfInBounds_toArray, List.set_cons_succ, List.set_cons_zero, List.getElem_toArray, List.getElem_cons_succ, List.getElem_cons_zero]
            refine held_take (i := 12) (v := .bool true) rfl (by kernel_rfl) (by kernel_rfl) (by kernel_rfl) (fun _ _ _ h => h) rfl (fun w' hS => by
              obtain ⟨s0, s1, s2, s3, t0, t1, t2, t3⟩ := hS
              go_simp) HSW ?_
            simp only [Act.put, List.setIfInBounds_toArray, List.set_cons_succ, List.set_cons_zero, List.getElem_toArray, List.getElem_cons_succ, List.getElem_cons_zero]
            refine held_take (i := 13) (v := .bool false) rfl (by kernel_rfl) (by kernel_rfl) (by kernel_rfl) (fun _ _ _ h => h) rfl (fun w' hS => by
              obtain ⟨s0, s1, s2, s3, t0, t1, t2, t3⟩ := hS
              go_simp) HSW ?_
            simp only [Act.put, List.setIfInBounds_toArray, List.set_cons_succ, List.set_cons_zero, List.getElem_toArray, List.getElem_cons_succ, List.getElem_cons_zero]
            refine held_take (i := 14) (v := .bool false) rfl (by kernel_rfl) (by kernel_rfl) (by kernel_rfl) (fun _ _ _ h => h) rfl (fun w' hS => by
              obtain ⟨s0, s1, s2, s3, t0, t1, t2, t3⟩ := hS
              go_simp) HSW ?_
            simp only [Act.put, List.setIfInBounds_toArray, List.set_cons_succ, List.set_cons_zero, List.getElem_toArray, List.getElem_cons_succ, List.getElem_cons_zero]
            refine held_take (i := 15) (v := .bool false) rfl (by kernel_rfl) (by kernel_rfl) (by kernel_rfl) (fun _ _ _ h => h) rfl (fun w' hS => by
              obtain ⟨s0, s1, s2, s3, t0, t1, t2, t3⟩ := hS
              go_simp) HSW ?_
            simp only [Act.put, List.setIfInBounds_toArray, List.set_cons_succ, List.set_cons_zero, List.getElem_toArray, List.getElem_cons_succ, List.getElem_cons_zero]
            refine held_take (i := 16) (v := .bool true) rfl (by kernel_rfl) (by kernel_rfl) (by kernel_rfl) (fun _ _ _ h => h) rfl (fun w' hS => by
              obtain ⟨s0, s1, s2, s3, t0, t1, t2, t3⟩ := hS
              go_simp) HSW ?_
            simp only [Act.put, List.setIfInBounds_toArray, List.set_cons_succ, List.set_cons_zero, List.getElem_toArray, List.getElem_cons_succ, List.getElem_cons_zero]
            refine held_take (i := 17) (v := .bool false) rfl (by kernel_rfl) (by kernel_rfl) (by kernel_rfl) (fun _ _ _ h => h) rfl (fun w' hS => by
              obtain ⟨s0, s1, s2, s3, t0, t1, t2, t3⟩ := hS
              go_simp) HSW ?_
            simp only [Act.put, List.setIfInBounds_toArray, List.set_cons_succ, List.set_cons_zero, List.getElem_toArray, List.getElem_cons_succ, List.getElem_cons_zero]
            refine held_take (i := 18) (v := .bool false) rfl (by kernel_rfl) (by kernel_rfl) (by kernel_rfl) (fun _ _ _ h => h) rfl (fun w' hS => by
              obtain ⟨s0, s1, s2, s3, t0, t1, t2, t3⟩ := hS
              go_simp) HSW ?_
            simp only [Act.put, List.setIfInBounds_toArray, List.set_cons_succ, List.set_cons_zero, List.getElem_toArray, List.getElem_cons_succ, List.getElem_cons_zero]
            refine wpAnyH_done (by kernel_rfl) ?_ _
            clear HSW
            go_wp2_with fail
            go_roundw
            case rel => exact ⟨i + 1, by go_num, by omega, Lib.hid HBA.out.drew.drew⟩
            case measure => simp [intOf]; omega
      · obtain rfl : i = zl.length := by omega
        go_wp2_with fail
        refine (alive26_any _).mono ?_
        rintro e w9 ⟨rfl, hB9⟩
        have H9 := Lib.hid ((H5.out.trans (HBR.out.mono H5.out.size)).trans (hB9.mono (Nat.le_trans H5.out.size HBR.out.size)))
        clear hB9
        go_wp2_with fail
        go_ret
        exact ⟨rfl, H9.out⟩
end Go.Proofs.Ytcdhndhgainadaa.repairKeeps
