/-
  What the laws' arguments read as, and of what bulk: a rich node's texts are no more than its reading holds. And the lift of a law whose row bears a condition.
-/
import Derived.Test.YtcdhndhgainadaaRows
import Derived.Test.YtcdhndhgainadaaOpenR
import Derived.Test.YtcdhndhgainadaaKeepEnd
import Derived.Deep.CondSized
namespace Go.Proofs.Ytcdhndhgainadaa
open Go Go.ChangeShapes Go.WideShapes Go.RowKit Go.ChangeAt
set_option linter.unusedVariables false

theorem bulk_pos {H : Type} (d : DataW H) : 1 ≤ Rows.uptoBulk d := by
  cases d with
  | lit l => cases l <;> simp only [Rows.uptoBulk] <;> omega
  | _ => simp only [Rows.uptoBulk] <;> omega
theorem bulk_sum {H : Type} {α : Type} (m : α → Nat) : ∀ (xs : List α) (ds : List (DataW H)), (∀ (i : Nat) (x : α), xs[i]? = some x → ∃ d, ds[i]? = some d ∧ m x ≤ Rows.uptoBulk d) → (xs.map m).sum ≤ Rows.uptoBulkAll ds
  | [], _, _ => by simp
  | x :: xs, [], h => by obtain ⟨d, hd, _⟩ := h 0 x rfl; simp at hd
  | x :: xs, d :: ds, h => by
    obtain ⟨d', hd, h0⟩ := h 0 x rfl
    obtain rfl : d = d' := by simpa using hd
    have := bulk_sum m xs ds fun i y hy => h (i + 1) y (by simpa using hy)
    simp only [List.map_cons, List.sum_cons, Rows.uptoBulkAll]
    omega
section
variable {H : Type} {enc : TypeId × Value → H} {P : Program} {W : World}
theorem open_slice_b {t e : TypeId} {fuel sz : Nat} {v : Value} {y : DataW H × List MemPlace} (ht : P.underlying t = some (.slice e)) (hc : P.cellsOf e = sz) (hs : 0 < sz)
    (h : DataW.trod enc P W 0 (fun _ => true) true fuel t [v] = some y)
    {α : Type} (f : α → List Value) (hfl : ∀ a, (f a).length = sz) (G : α → Prop) (m : α → Nat) (hf : ∀ m' cs y, m' < fuel → cs.length = sz → DataW.trod enc P W 0 (fun _ => true) true m' e cs = some y → ∃ a : α, cs = f a ∧ G a ∧ m a ≤ Rows.uptoBulk y.1) :
    ∃ (A : Option Addr) (n c : Nat) (xs : List α), v = .slice A n c ∧ Rd W W.heap.size sz A n (xs.flatMap f) ∧ n ≤ c ∧ c ≤ maxLen ∧ xs.length = n ∧ (∀ x ∈ xs, G x) ∧ (xs.map m).sum ≤ Rows.uptoBulk y.1 := by
  rcases DataW.trod_slice ht h with ⟨hcs, hx⟩ | ⟨a, n, cap, elems, rest, k, hfu, hcs, hx, _, hl, hm, hlen, hel, hsp, _⟩
  · simp only [List.cons.injEq, and_true] at hcs
    subst hcs
    exact ⟨none, 0, 0, [], rfl, Rd.nil _ _ _ _, Nat.le_refl _, by simp [maxLen], rfl, by simp, by simp⟩
  · simp only [List.cons.injEq, and_true] at hcs
    subst hcs
    have hcell : ∀ i, i < n → ∃ b : α, (∀ j u, (f b)[j]? = some u → W.cell? ((a.add (i * sz)).add j) = some u) ∧ G b ∧ ∃ d, (elems.map (·.1))[i]? = some d ∧ m b ≤ Rows.uptoBulk d := by
      intro i hin
      have hi := hel i hin
      rw [hc, List.getElem?_eq_getElem (by omega)] at hi
      obtain ⟨cs', h1, h2⟩ := Option.bind_eq_some_iff.1 hi
      obtain ⟨_, hcl, hat⟩ := World.cells?_some h1
      obtain ⟨b, rfl, hg, hmb⟩ := hf k cs' _ (by omega) hcl h2
      refine ⟨b, fun j u hu => ?_, hg, _, by rw [List.getElem?_map, List.getElem?_eq_getElem (by omega)]; rfl, hmb⟩
      have hj : j < sz := by
        rcases Nat.lt_or_ge j sz with h | h
        · exact h
        · rw [List.getElem?_eq_none (by rw [hfl]; exact h)] at hu; cases hu
      have := hat j hj
      rw [this]
      exact hu
    obtain ⟨xs, hxl, hxs⟩ := listOf (fun (i : Nat) (b : α) => (∀ j u, (f b)[j]? = some u → W.cell? ((a.add (i * sz)).add j) = some u) ∧ G b ∧ ∃ d, (elems.map (·.1))[i]? = some d ∧ m b ≤ Rows.uptoBulk d) n (fun i _ => i) hcell
    refine ⟨some a, n, cap, xs, rfl, ⟨by rw [flatN_len f sz hfl, hxl], ?_⟩, hl, hm, hxl, ?_, ?_⟩
    · rcases Nat.eq_zero_or_pos n with h0 | h0
      · exact .inl h0
      · obtain ⟨hc0, _⟩ := hxs 0 h0 (by omega)
        obtain ⟨u0, hu0⟩ : ∃ u0, (f xs[0])[0]? = some u0 := ⟨(f xs[0])[0]'(by rw [hfl]; exact hs), List.getElem?_eq_getElem _⟩
        have hc00 := hc0 0 u0 hu0
        obtain ⟨b, off, spot⟩ := a
        have hspot : spot = none := by simpa [Addr.add] using World.cell?_spot hc00
        subst hspot
        refine .inr ⟨b, off, rfl, ?_, fun j u hu => ?_⟩
        · have := World.block_lt_of_cell? W _ hc00
          simpa [addr_add] using this
        · obtain ⟨k', e', he', hu', rfl⟩ := flatN_at f sz hfl hs xs j u hu
          obtain ⟨hk', rfl⟩ := List.getElem?_eq_some_iff.1 he'
          have := (hxs (j / sz) (by omega) hk').1 (j % sz) u hu'
          rw [addr_add, addr_add] at this
          rw [← this]
          congr 2
          have := Nat.div_add_mod j sz
          rw [Nat.mul_comm] at this
          omega
    · intro x hx2
      obtain ⟨i, hi, rfl⟩ := List.mem_iff_getElem.1 hx2
      exact (hxs i (by omega) hi).2.1
    · have h2 := bulk_sum m xs (elems.map (·.1)) fun i x hx2 => by
        obtain ⟨hi, rfl⟩ := List.getElem?_eq_some_iff.1 hx2
        exact (hxs i (by omega) hi).2.2
      rw [hx]
      simp only [Rows.uptoBulk]
      omega
end
section
variable {H : Type} {enc : TypeId × Value → H} {W : World}
theorem sum_one {α : Type} : ∀ xs : List α, (xs.map fun _ => 1).sum = xs.length
  | [] => rfl
  | x :: xs => by simp only [List.map_cons, List.sum_cons, List.length_cons, sum_one xs]; omega
theorem pieces_bulk {t : TypeId} (ht : Try.prog.underlying t = some (.slice 55)) {fuel : Nat} {v : Value} {y : DataW H × List MemPlace} (hf : DataW.trod enc Try.prog W 0 (fun _ => true) true fuel t [v] = some y) : ∃ A n c xs, v = .slice A n c ∧ RdP W W.heap.size A n c xs ∧ xs.length ≤ Rows.uptoBulk y.1 := by
  obtain ⟨A, m, c, zs, rfl, hrd, hmc, hcm, hzl, hz, hb⟩ := open_slice_b (v := v) (y := y) ht cells55 (by decide) hf
    (α := Z Pce 2) (fun a => a.1.1) (fun a => a.2) (fun a => PcR W W.heap.size a.1.1 a.1.2) (fun _ => 1)
    (fun m' cs' y' hm' hc' h' => by
      obtain ⟨p, hp⟩ := piece_cells h'
      exact ⟨⟨(cs', p), hc'⟩, rfl, hp, bulk_pos _⟩)
  rw [sum_one] at hb
  exact ⟨A, m, c, vz zs, rfl, ⟨zs, rfl, hrd, hzl, hz, hmc, hcm⟩, by rw [vz_len]; exact hb⟩
theorem xtL_sum : ∀ zs : List (Z RT 6), (xtL (vz zs)).length = (zs.map fun z => (xt z.1.2).length).sum
  | [] => by simp [vz, xtL]
  | z :: zs => by
    have := xtL_sum zs
    rw [show vz (z :: zs) = z.1.2 :: vz zs from rfl, xtL, List.length_append, this, List.map_cons, List.sum_cons]
theorem noder_bulk : ∀ (N fuel : Nat) (cs : List Value) (y : DataW H × List MemPlace), fuel < N → DataW.trod enc Try.prog W 0 (fun _ => true) true fuel 31 cs = some y → ∃ t : RT, NdR W W.heap.size cs t ∧ (xt t).length ≤ Rows.uptoBulk y.1 := by
  intro N
  induction N with
  | zero => intro fuel cs y h; omega
  | succ N ih =>
    intro fuel cs y hN hf
    obtain ⟨xs, n, rfl, hy, hl, hxs, hfd⟩ := DataW.trod_struct Try.underlying31 hf
    rw [cells31] at hl
    match xs, hxs with
    | [x0, x1, x2, x3, x4], _ =>
    have e0 := hfd 0 _ rfl
    have e1 := hfd 1 _ rfl
    have e2 := hfd 2 _ rfl
    have e3 := hfd 3 _ rfl
    have e4 := hfd 4 _ rfl
    match cs, hl with
    | [v0, v1, v2, v3, v4, v5], _ =>
      obtain ⟨sn, sr, he⟩ := stamp_cells (cs := [v0, v1]) (y := x0) (by simpa [cells26] using e0)
      injection he with h0 h1
      injection h1 with h1 _
      subst h0 h1
      obtain ⟨k, rfl⟩ := str_cell (v := v2) (y := x1) (by simpa [cells9] using e1)
      obtain ⟨AA, an, ac, at_, rfl, ha⟩ := attrs_cell (v := v3) (y := x2) Try.underlying27 (by simpa [cells27] using e2)
      obtain ⟨TA, tn, tc, tx, rfl, hp, hpb⟩ := pieces_bulk (v := v4) (y := x3) Try.underlying28 (by simpa [cells28] using e3)
      obtain ⟨A, m, c, zs, rfl, hrd, hmc, hcm, hzl, hz, hb⟩ := open_slice_b (v := v5) (y := x4) Try.underlying29 cells31 (by decide) (by simpa [cells29] using e4)
        (α := Z RT 6) (fun a => a.1.1) (fun a => a.2) (fun a => NdR W W.heap.size a.1.1 a.1.2) (fun z => (xt z.1.2).length)
        (fun m' cs' y' hm' hc' h' => by
          obtain ⟨t, ht, htb⟩ := ih m' cs' y' (by omega) h'
          exact ⟨⟨(cs', t), hc'⟩, rfl, ht, htb⟩)
      refine ⟨_, .mk sn sr k AA an ac at_ TA tn tc tx A m c zs ha hp hrd hzl hz hmc hcm, ?_⟩
      rw [xt, List.length_append, xtL_sum, hy]
      simp only [List.map_cons, List.map_nil, Rows.uptoBulk, Rows.uptoBulkAll]
      omega
/-- a Node, by value, and its texts' bulk -/
theorem open_bulk {base : Nat} {v : Value} {d : DataW H} {p : List MemPlace} (hv : Value.okWide Try.prog W .any base 31 v) (h : DataW.Trod enc Try.prog W 0 (fun _ => true) true 31 v d p) :
    ∃ (cs : List Value) (t : RT), v = .agg cs.toArray ∧ NdR W W.heap.size cs t ∧ (xt t).length ≤ Rows.uptoBulk d := by
  obtain ⟨fuel, hf⟩ := h
  obtain ⟨cs, rfl, hsz⟩ := okWide_struct Try.underlying31 hv
  obtain ⟨t, ht, hb⟩ := noder_bulk (fuel + 1) fuel cs.toList _ (Nat.lt_succ_self _) (by simpa [Value.cells] using hf)
  exact ⟨cs.toList, t, by simp, ht, hb⟩
end
/-- WHAT A LAW's WALK OWES, under a condition of the row's -/
def LawWalkK (C : Checked) (f : FuncId) (fn : Func) (k : (H : Type) → List (DataW H) → Bool) : Prop :=
  ∀ (H : Type) (enc : TypeId × Value → H) (W : World) (base : Nat) (args : Array Value) (ds : List (DataW H)) (ps : List MemPlace),
    (∀ (j : Nat) t v, fn.params[j]? = some t → args[j]? = some v → Value.okWide C.prog W .any base t v) →
    DataW.TrodAll enc C.prog W 0 (fun _ => true) true fn.params.toList args.toList ds ps → k H ds = true →
    Calls C.prog f args W fun e W' => e = .returned (.bool true) ∧ Below W.heap.size W W'
theorem law_lifted_k {C : Checked} {f : FuncId} {fn : Func} {s : ChangeSpec} {k : (H : Type) → List (DataW H) → Bool} {S : OpenSpec} (hS : S = { OpenSpec.ofChange s with cond := some k }) (own : ownKnob C.prog.godebug = none) (hl : laidOutB C.prog = true)
    (noInit : C.prog.inits.idxOf? f = none) (hfn : C.prog.funcs[f]? = some fn) {tb : TypeId} (htb : C.prog.underlying tb = some .bool) (hres : fn.resultTypes = #[tb])
    (hvars : s.vars = []) (hsp : ∀ (H : Type) (ds : List (DataW H)), ds.length = fn.params.toList.length → s.fn H ds = { results := [.lit (.bool true)], args := ds })
    (hread : ∀ t ∈ fn.params.toList, C.prog.readableRec t = true ∧ t < C.prog.types.size)
    (os : Os) (started : os.Started) (H : Type) (enc : TypeId × Value → H) (F : Stop.Interp)
    (witness : ∃ (w : World) (tape : Tape) (i : Input), w.os = os ∧ (w.forCall tape i).Shaped C.prog ∧ i.vars = [] ∧ Input.okWide C.prog (w.forCall tape i) .any w.heap.size f i ∧
      S.pre6 enc C.prog fn [] false (w.forCall tape i).memory i.args ∧ ({} : Assume).holds C.prog (lone (Frame.enter C.prog f i.args .normal) [] (w.forCall tape i)))
    (walk : LawWalkK C f fn k) :
    ReturnsInHanded {} C os f .any (S.pre6 enc C.prog fn [] false) ((S.at F).post enc C.prog fn false true false false) := by
  subst hS
  refine returnsInHanded_of_cond_sized (C := C) (k := k) rfl own started noInit hfn witness ?_
  intro W base args ds gs before hval hW hcnd hk hsz _
  have hW' := hW
  obtain ⟨p, q, hA, hV, rfl, hfz, hnd⟩ := hW
  have hV2 : DataW.TrodVars enc C.prog W _ s.vars gs q := hV
  rw [hvars] at hV2
  obtain ⟨rfl, rfl⟩ := trodVars_none hV2
  rw [List.append_nil] at hk
  refine (walk H enc W base args ds p hval hA hk).mono fun e W' ⟨he, bel⟩ => ?_
  subst he
  have hfnv := hsp H ds (trodAll_length _ _ _ _ hA).1
  have hfnv2 : ((OpenSpec.at { OpenSpec.ofChange s with cond := some k } F).fn H (ds ++ [])) = { results := [.lit (.bool true)], args := ds } := by rw [List.append_nil]; exact hfnv
  refine ⟨_, rfl, ds, [], p ++ [], [], p, [], hW', ?_, ?_, ?_, bel.frame _, fun h => by cases h⟩
  · rw [hfnv2, hres]
    exact trodAll_mk1 (shut_bool htb _)
  · rw [hfnv2]
    exact trodAll_below hl bel _ _ _ _ hread hA
  · rw [hfnv2]
    show DataW.TrodVars enc C.prog W' _ s.vars _ _
    rw [hvars]
    rfl
end Go.Proofs.Ytcdhndhgainadaa
