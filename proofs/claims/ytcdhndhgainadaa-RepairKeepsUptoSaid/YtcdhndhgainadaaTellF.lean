/-
  The contracts of told (program), ahead (document), slices.Clone.
-/
import Derived.Test.YtcdhndhgainadaaRowF
import Derived.Lib.SliceRun
namespace Go.Proofs.Ytcdhndhgainadaa
open Go Go.RowKit
set_option linter.unusedVariables false
set_option linter.unusedSimpArgs false

/-- the value of a made para over a text -/
abbrev toV (TA : Option Addr) (tn tc : Nat) : Array Value := #[.int .i64 0, .int .i64 0, .string sPara, .slice none 0 0, .slice TA tn tc, .slice none 0 0]
section
variable {w w' : World} {S S' : Nat → Prop} {TA : Option Addr} {tn tc : Nat} {tx : List Pce}
theorem NdF.told (h : RdPF w S TA tn tc tx) : NdF w S (toV TA tn tc).toList (.node 0 0 sPara [] tx []) :=
  NdR.mk 0 0 sPara none 0 0 [] TA tn tc tx none 0 0 [] (RdA.nil _ _) h (Rd.nil _ _ _ _) rfl (by simp) (Nat.le_refl _) (by decide)
end
/-- what a call that answers a row of its own owes -/
def GivesO (w : World) (S : Nat → Prop) (ts : List RT) : Ending → World → Prop := fun e w' => ∃ A c zs, e = .returned (.slice A zs.length c) ∧ vz zs = ts ∧ Row w' w.heap.size S (.slice A zs.length c) zs ∧ Below w.heap.size w w'

set_option maxRecDepth 100000 in
set_option maxHeartbeats 1000000 in
theorem told39_any (TA : Option Addr) (tn tc : Nat) (tx : List Pce) (w : World) (S : Nat → Prop) (h : RdPF w S TA tn tc tx) : Calls Try.prog 39 #[.slice TA tn tc] w (GivesO w S (toldT tx)) := by
  have hl := h.length
  by_cases h0 : tn = 0
  · subst h0
    obtain rfl := List.eq_nil_of_length_eq_zero hl
    go_enter Try.func39, Try.ntmps39
    go_wp2_with fail
    go_ret
    exact ⟨none, 0, [], rfl, rfl, Row.nil _ _ _, Below.refl _ _⟩
  · have hne : tx ≠ [] := fun e => h0 (by rw [← hl, e]; rfl)
    have HE : Hid (toldT tx = [.node 0 0 sPara [] tx []]) := Lib.hid (by rw [toldT, if_neg hne])
    have hi : ¬ (tn : Int) = 0 := by omega
    have g1 : ((tn : Int) == 0) = false := by simpa using hi
    have HP := Lib.hid h
    clear h hl hne
    go_enter Try.func39, Try.ntmps39
    go_wp2_with fail
    refine (made47_any _ _ _ _ _).mono ?_
    rintro e w1 ⟨rfl, rfl⟩
    go_wp2_with fail
    go_ret
    have hu : NdF ((w.alloc (.cells (mkV sPara none 0 0) 31)).alloc (.cells (toV TA tn tc) 31)) S (toV TA tn tc).toList (.node 0 0 sPara [] tx []) :=
      (NdF.told HP.out).stay (.below (blOn (blAl _) _) fun _ _ h => h)
    refine ⟨some ⟨w.heap.size + 1 + 1, 0, none⟩, 1, [⟨((toV TA tn tc).toList, .node 0 0 sPara [] tx []), hu.len⟩], rfl, ?_, Row.one (n₀ := w.heap.size) _ _ hu (fun b _ hb => .inl hb) (w.heap.size + 1 + 1) (by simp only [World.size_alloc]) (by omega), blOn (blOn (blAl _) _) _⟩
    rw [HE.out]; rfl

theorem RdF.z {w : World} {S : Nat → Prop} {A : Option Addr} {n c : Nat} {ts : List RT} (h : RdF w S A n c ts) : ∃ zs : List (Z RT 6), vz zs = ts ∧ RdZ 6 (NdF w S) (only w S) w.heap.size A n c zs := h
theorem RdZ.stayF {w w' : World} {S S' : Nat → Prop} {A : Option Addr} {n c : Nat} {zs : List (Z RT 6)} (h : RdZ 6 (NdF w S) (only w S) w.heap.size A n c zs) (k : Stay w w' S S') : RdZ 6 (NdF w' S') (only w' S') w'.heap.size A n c zs :=
  ⟨h.row.up k.size k.reads, h.len, fun z hz => (h.all z hz).stay k, h.cap, h.max⟩

set_option maxRecDepth 100000 in
set_option maxHeartbeats 1000000 in
theorem ahead42_any (TA : Option Addr) (tn tc : Nat) (tx : List Pce) (A : Option Addr) (n c : Nat) (ts : List RT) (w : World) (S : Nat → Prop) (hS : ∀ b, S b → b < w.heap.size) (h : RdPF w S TA tn tc tx) (hr : RdF w S A n c ts) (hn : n ≤ 900000) :
    Calls Try.prog 42 #[.slice TA tn tc, .slice A n c] w (GivesR w S (toldT tx ++ ts)) := by
  have hl := h.length
  by_cases h0 : tn = 0
  · subst h0
    obtain rfl := List.eq_nil_of_length_eq_zero hl
    have HR := Lib.hid hr
    clear hl h hr
    go_enter Try.func42, Try.ntmps42
    go_wp2_with fail
    go_ret
    exact ⟨_, _, _, rfl, HR.out.stay (.weaken w fun _ _ h => .inl h), Below.refl _ _⟩
  · have hne : tx ≠ [] := fun e => h0 (by rw [← hl, e]; rfl)
    have HE : Hid (toldT tx = [.node 0 0 sPara [] tx []]) := Lib.hid (by rw [toldT, if_neg hne])
    have hi : ¬ (tn : Int) = 0 := by omega
    have g1 : ((tn : Int) == 0) = false := by simpa using hi
    have HP := Lib.hid h
    have HR := Lib.hid hr
    clear h hl hne hr
    go_enter Try.func42, Try.ntmps42
    go_wp2_with fail
    refine (made52_any _ _ _ _ _).mono ?_
    rintro e w1 ⟨rfl, rfl⟩
    obtain ⟨zs, rfl, hz⟩ := HR.out.z
    have hu : NdF ((w.alloc (.cells (mkV sPara none 0 0) 31)).alloc (.cells (toV TA tn tc) 31)) S (toV TA tn tc).toList (.node 0 0 sPara [] tx []) :=
      (NdF.told HP.out).stay (.below (blOn (blAl _) _) fun _ _ h => h)
    have hrow := Row.one (S := S) (n₀ := w.heap.size) _ _ hu (fun b _ hb => .inl hb) (w.heap.size + 1 + 1) (by simp only [World.size_alloc]) (by omega)
    have hB : Below w.heap.size w ((((w.alloc (.cells (mkV sPara none 0 0) 31)).alloc (.cells (toV TA tn tc) 31))).alloc (.cells (toV TA tn tc) 31)) := blOn (blOn (blAl _) _) _
    have hzz := hz.stayF (S' := S) (.below hB fun _ _ h => h)
    have hzl := hz.len
    have hsub : ∀ b, b < ((((w.alloc (.cells (mkV sPara none 0 0) 31)).alloc (.cells (toV TA tn tc) 31))).alloc (.cells (toV TA tn tc) 31)).heap.size → S b → Sx w.heap.size S (.slice (some ⟨w.heap.size + 1 + 1, 0, none⟩) 1 1) b := fun b hb h => ⟨.inl h, fun e => by
      have := hS b h
      simp [Value.ownBlock] at e
      omega⟩
    go_wp2_with (at_builtin; refine wpList_rows rfl (.tmp 14) (.tmp 15) rfl rfl hrow rfl hzz hsub ?len hB.size ?_)
    case len => simp; omega
    · intro A' c' w' hrow' hg' hat'
      have hB2 := hB.trans (hrow.grown_below hg' hB.size)
      go_wp2_with fail
      go_ret
      refine ⟨_, _, _, rfl, ?_, hB2⟩
      have h1 := hrow'.rd (S' := Sn w.heap.size S) fun _ _ h => h
      rw [HE.out]
      exact h1

set_option maxRecDepth 100000 in
set_option maxHeartbeats 1000000 in
theorem clone57_any (A : Option Addr) (n c : Nat) (ts : List RT) (w : World) (S : Nat → Prop) (hS : ∀ b, S b → b < w.heap.size) (hr : RdF w S A n c ts) (hn0 : 0 < n) (hn : n ≤ 900000) :
    Calls Try.prog 57 #[.slice A n c] w (GivesR w S ts) := by
  obtain ⟨zs, rfl, hz⟩ := hr.z
  obtain ⟨b, off, rfl, -⟩ := hz.row.at_ hn0
  have HZ := Lib.hid hz
  have hev := fun (w : World) => Lib.run_eql_slice_nil (P := Try.prog) w 29 31 (some ⟨b, off, none⟩) n c 0 0 Try.underlying29
  clear hr hz
  go_enter Try.func57, Try.ntmps57
  have hrow : Row (w.alloc (.cells #[] 31)) w.heap.size S (.slice (some ⟨w.heap.size, 0, none⟩) 0 0) [] := ⟨own_empty w w.heap.size 31 6 (Nat.le_refl _), by simp⟩
  have hB : Below w.heap.size w (w.alloc (.cells #[] 31)) := blAl _
  have hzz := HZ.out.stayF (S' := S) (.below hB fun _ _ h => h)
  have hzl := HZ.out.len
  have hsub : ∀ b, b < (w.alloc (.cells #[] 31)).heap.size → S b → Sx w.heap.size S (.slice (some ⟨w.heap.size, 0, none⟩) 0 0) b := fun b hb h => ⟨.inl h, fun e => by
    have := hS b h
    simp [Value.ownBlock] at e
    omega⟩
  have HROW := Lib.hid hrow
  have HZZ := Lib.hid hzz
  have HSUB := Lib.hid hsub
  have HB := Lib.hid hB
  have HZL := Lib.hid hzl
  clear hrow hzz hsub hB hzl
  go_wp2_with (at_builtin; refine wpList_rows rfl (.tmp 5) (.tmp 6) rfl rfl HROW.out rfl HZZ.out HSUB.out ?len HB.out.size ?_)
  case len => have := HZL.out; simp; omega
  · intro A' c' w' hrow' hg' hat'
    have hB2 := HB.out.trans (HROW.out.grown_below hg' HB.out.size)
    go_wp2_with fail
    go_ret
    exact ⟨_, _, _, rfl, hrow'.rd (S' := Sn w.heap.size S) fun _ _ h => h, hB2⟩
end Go.Proofs.Ytcdhndhgainadaa
