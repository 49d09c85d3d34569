/-
  The contracts of made, least (program and document).
-/
import Derived.Test.YtcdhndhgainadaaFoot
import Derived.Laws.Rows
namespace Go.Proofs.Ytcdhndhgainadaa
open Go Go.RowKit
set_option linter.unusedVariables false
set_option linter.unusedSimpArgs false

theorem size31 : (Try.prog.info? 31).map (·.size) = some 6 := by kernel_rfl
/-- a return through a cell that holds a node -/
theorem ret_node {fn : Func} {p : Tmp} (h : fn.results = #[.cell p 31]) (tmps : Array Value) (w : World) (g : Nat) (cs : Array Value) (hp : tmps.getD p undef = .pointer (some ⟨g, 0, none⟩)) (hg : BoxN w g cs 31) (hs : cs.size = 6) :
    (results fn tmps).run Try.prog w = .ok (.agg cs) w :=
  results_cell_row h tmps w g 31 cs (0, 0) _ hp hg Try.underlying31 rfl (by rw [hs]; exact size31)

/-- the value of a made node -/
abbrev mkV (k : ByteArray) (A : Option Addr) (m c : Nat) : Array Value := #[.int .i64 0, .int .i64 0, .string k, .slice none 0 0, .slice none 0 0, .slice A m c]

set_option maxRecDepth 100000 in
set_option maxHeartbeats 1000000 in
theorem made47_any (k : ByteArray) (A : Option Addr) (m c : Nat) (w : World) : Calls Try.prog 47 #[.string k, .slice A m c] w fun e w' => e = .returned (.agg (mkV k A m c)) ∧ w' = w.alloc (.cells (mkV k A m c) 31) := by
  go_enter Try.func47, Try.ntmps47
  go_wp2_with fail
  exact bodyPost_ret (ret_node rfl _ _ w.heap.size _ rfl (BoxN.made w _ _) rfl) rfl ⟨rfl, rfl⟩
set_option maxRecDepth 100000 in
set_option maxHeartbeats 1000000 in
theorem made52_any (k : ByteArray) (A : Option Addr) (m c : Nat) (w : World) : Calls Try.prog 52 #[.string k, .slice A m c] w fun e w' => e = .returned (.agg (mkV k A m c)) ∧ w' = w.alloc (.cells (mkV k A m c) 31) := by
  go_enter Try.func52, Try.ntmps52
  go_wp2_with fail
  exact bodyPost_ret (ret_node rfl _ _ w.heap.size _ rfl (BoxN.made w _ _) rfl) rfl ⟨rfl, rfl⟩

section
variable {w w' : World} {S S' : Nat → Prop} {A : Option Addr} {n c : Nat}
/-- a made node reads as one -/
theorem NdF.made (k : ByteArray) {ks : List RT} (h : RdF w S A n c ks) : NdF w S (mkV k A n c).toList (mk k ks) := by
  obtain ⟨zs, rfl, hz⟩ := h
  exact NdR.mk 0 0 k none 0 0 [] none 0 0 [] A n c zs (RdA.nil _ _) (RdP.nil _ _) hz.row hz.len hz.all hz.cap hz.max
theorem RdF.nil (w : World) (S : Nat → Prop) : RdF w S none 0 0 [] := RdN.nil _ _
/-- one node in a block of its own reads as a row -/
theorem RdF.one (v : Array Value) (t : RT) (hv : NdF w S v.toList t) (hs : ∀ b, b < w.heap.size → S b → S' b) (g : Nat) (hg : w.heap.size = g) (hn : S' g) :
    RdF (w.alloc (.cells v 31)) S' (some ⟨g, 0, none⟩) 1 1 [t] := by
  subst hg
  have hl : v.toList.length = 6 := hv.len
  have h1 : NdF (w.alloc (.cells v 31)) S' v.toList t := hv.stay (.below ((Below.refl _ w).alloc (Nat.le_refl _) _) hs)
  refine ⟨[⟨(v.toList, t), hl⟩], rfl, ?_, rfl, fun z hz => ?_, Nat.le_refl _, by decide⟩
  · have := (BoxN.made w v 31).rd6 (by simpa using hl)
    have e : cz [(⟨(v.toList, t), hl⟩ : Z RT 6)] = v.toList := by simp [cz]
    rw [e]
    exact this.foot (by simp) (fun b off e => by injection e with e; injection e with e; subst e; exact hn)
  · obtain rfl : z = ⟨(v.toList, t), hl⟩ := by simpa using hz
    exact h1
end

/-- what a call that answers one node owes -/
def GivesN (w : World) (S : Nat → Prop) (t : RT) : Ending → World → Prop := fun e w' => ∃ v : Array Value, e = .returned (.agg v) ∧ NdF w' (Sn w.heap.size S) v.toList t ∧ Below w.heap.size w w'
/-- what a call that answers a row of nodes owes -/
def GivesR (w : World) (S : Nat → Prop) (ts : List RT) : Ending → World → Prop := fun e w' => ∃ A n c, e = .returned (.slice A n c) ∧ RdF w' (Sn w.heap.size S) A n c ts ∧ Below w.heap.size w w'

theorem blOn {w w1 : World} (h : Below w.heap.size w w1) (o : Obj) : Below w.heap.size w (w1.alloc o) := h.alloc h.size o
theorem blAl {w : World} (o : Obj) : Below w.heap.size w (w.alloc o) := (Below.refl _ w).alloc (Nat.le_refl _) o

set_option maxRecDepth 100000 in
set_option maxHeartbeats 1000000 in
/-- least of the program -/
theorem least58_any (k : ByteArray) (w : World) (S : Nat → Prop) : Calls Try.prog 58 #[.string k] w (GivesN w S (leastT (kd k))) := by
  rcases kd_cases k with rfl | rfl | rfl | rfl | rfl | rfl | rfl | rfl | rfl | h
  · rw [kdPara]
    go_enter Try.func58, Try.ntmps58
    go_wp2_with fail
    refine (made47_any _ _ _ _ _).mono ?_
    rintro e w1 ⟨rfl, rfl⟩
    go_wp2_with fail
    exact bodyPost_ret (ret_node rfl _ _ w.heap.size _ rfl ((BoxN.made w _ _).alloc _) rfl) rfl ⟨_, rfl, NdF.made sCell (RdF.nil _ _), blOn (blAl _) _⟩
  · rw [kdHead]
    go_enter Try.func58, Try.ntmps58
    go_wp2_with fail
    refine (made47_any _ _ _ _ _).mono ?_
    rintro e w1 ⟨rfl, rfl⟩
    go_wp2_with fail
    exact bodyPost_ret (ret_node rfl _ _ w.heap.size _ rfl ((BoxN.made w _ _).alloc _) rfl) rfl ⟨_, rfl, NdF.made sCell (RdF.nil _ _), blOn (blAl _) _⟩
  · rw [kdQuote]
    go_enter Try.func58, Try.ntmps58
    go_wp2_with fail
    refine (made47_any _ _ _ _ _).mono ?_
    rintro e w1 ⟨rfl, rfl⟩
    go_wp2_with fail
    exact bodyPost_ret (ret_node rfl _ _ w.heap.size _ rfl ((BoxN.made w _ _).alloc _) rfl) rfl ⟨_, rfl, NdF.made sPara (RdF.nil _ _), blOn (blAl _) _⟩
  · rw [kdList]
    go_enter Try.func58, Try.ntmps58
    go_wp2_with fail
    refine (made47_any _ _ _ _ _).mono ?_
    rintro e w1 ⟨rfl, rfl⟩
    go_wp2_with fail
    exact bodyPost_ret (ret_node rfl _ _ w.heap.size _ rfl ((BoxN.made w _ _).alloc _) rfl) rfl ⟨_, rfl, NdF.made sItem (RdF.nil _ _), blOn (blAl _) _⟩
  · rw [kdTable]
    go_enter Try.func58, Try.ntmps58
    go_wp2_with fail
    refine (made47_any _ _ _ _ _).mono ?_
    rintro e w1 ⟨rfl, rfl⟩
    go_wp2_with fail
    refine (made47_any _ _ _ _ _).mono ?_
    rintro e w1 ⟨rfl, rfl⟩
    go_wp2_with fail
    refine bodyPost_ret (ret_node rfl _ _ w.heap.size _ rfl ((((BoxN.made w _ _).alloc _).alloc _).alloc _) rfl) rfl ⟨_, rfl, NdF.made sRow ((RdF.one (S := Sn w.heap.size S) (S' := Sn w.heap.size S) _ (mk sCell []) (NdF.made sCell (RdF.nil _ _)) (fun _ _ h => h) _ (by simp only [World.size_alloc]) (.inr (by omega))).stay (.below (blAl _) fun _ _ h => h)), ?_⟩
    exact blOn (blOn (blOn (blAl _) _) _) _
  · rw [kdItem]
    go_enter Try.func58, Try.ntmps58
    go_wp2_with fail
    refine (made47_any _ _ _ _ _).mono ?_
    rintro e w1 ⟨rfl, rfl⟩
    go_wp2_with fail
    exact bodyPost_ret (ret_node rfl _ _ w.heap.size _ rfl ((BoxN.made w _ _).alloc _) rfl) rfl ⟨_, rfl, NdF.made sCell (RdF.nil _ _), blOn (blAl _) _⟩
  · rw [kdRow]
    go_enter Try.func58, Try.ntmps58
    go_wp2_with fail
    refine (made47_any _ _ _ _ _).mono ?_
    rintro e w1 ⟨rfl, rfl⟩
    go_wp2_with fail
    exact bodyPost_ret (ret_node rfl _ _ w.heap.size _ rfl ((BoxN.made w _ _).alloc _) rfl) rfl ⟨_, rfl, NdF.made sCell (RdF.nil _ _), blOn (blAl _) _⟩
  · rw [kdCell]
    go_enter Try.func58, Try.ntmps58
    go_wp2_with fail
    refine (made47_any _ _ _ _ _).mono ?_
    rintro e w1 ⟨rfl, rfl⟩
    go_wp2_with fail
    exact bodyPost_ret (ret_node rfl _ _ w.heap.size _ rfl ((BoxN.made w _ _).alloc _) rfl) rfl ⟨_, rfl, NdF.made sCell (RdF.nil _ _), blOn (blAl _) _⟩
  · rw [kdDoc]
    go_enter Try.func58, Try.ntmps58
    go_wp2_with fail
    refine (made47_any _ _ _ _ _).mono ?_
    rintro e w1 ⟨rfl, rfl⟩
    go_wp2_with fail
    exact bodyPost_ret (ret_node rfl _ _ w.heap.size _ rfl ((BoxN.made w _ _).alloc _) rfl) rfl ⟨_, rfl, NdF.made sCell (RdF.nil _ _), blOn (blAl _) _⟩
  · obtain ⟨hk, o1, o2, o3, o4, o5, o6, o7, o8, o9⟩ := odd_of h
    rw [hk]
    clear h
    go_enter Try.func58, Try.ntmps58
    go_wp2_with fail
    refine (made47_any _ _ _ _ _).mono ?_
    rintro e w1 ⟨rfl, rfl⟩
    go_wp2_with fail
    exact bodyPost_ret (ret_node rfl _ _ w.heap.size _ rfl ((BoxN.made w _ _).alloc _) rfl) rfl ⟨_, rfl, NdF.made sCell (RdF.nil _ _), blOn (blAl _) _⟩
set_option maxRecDepth 100000 in
set_option maxHeartbeats 1000000 in
/-- least of the document -/
theorem least59_any (k : ByteArray) (w : World) (S : Nat → Prop) : Calls Try.prog 59 #[.string k] w (GivesR w S [leastT (kd k)]) := by
  rcases kd_cases k with rfl | rfl | rfl | rfl | rfl | rfl | rfl | rfl | rfl | h
  · rw [kdPara]
    go_enter Try.func59, Try.ntmps59
    go_wp2_with fail
    refine (made52_any _ _ _ _ _).mono ?_
    rintro e w1 ⟨rfl, rfl⟩
    go_wp2_with fail
    go_ret
    exact ⟨_, _, _, rfl, RdF.one (S := Sn w.heap.size S) (S' := Sn w.heap.size S) _ (mk sCell []) (NdF.made sCell (RdF.nil _ _)) (fun _ _ h => h) _ (by simp only [World.size_alloc]) (.inr (by omega)), blOn (blAl _) _⟩
  · rw [kdHead]
    go_enter Try.func59, Try.ntmps59
    go_wp2_with fail
    refine (made52_any _ _ _ _ _).mono ?_
    rintro e w1 ⟨rfl, rfl⟩
    go_wp2_with fail
    go_ret
    exact ⟨_, _, _, rfl, RdF.one (S := Sn w.heap.size S) (S' := Sn w.heap.size S) _ (mk sCell []) (NdF.made sCell (RdF.nil _ _)) (fun _ _ h => h) _ (by simp only [World.size_alloc]) (.inr (by omega)), blOn (blAl _) _⟩
  · rw [kdQuote]
    go_enter Try.func59, Try.ntmps59
    go_wp2_with fail
    refine (made52_any _ _ _ _ _).mono ?_
    rintro e w1 ⟨rfl, rfl⟩
    go_wp2_with fail
    go_ret
    exact ⟨_, _, _, rfl, RdF.one (S := Sn w.heap.size S) (S' := Sn w.heap.size S) _ (mk sPara []) (NdF.made sPara (RdF.nil _ _)) (fun _ _ h => h) _ (by simp only [World.size_alloc]) (.inr (by omega)), blOn (blAl _) _⟩
  · rw [kdList]
    go_enter Try.func59, Try.ntmps59
    go_wp2_with fail
    refine (made52_any _ _ _ _ _).mono ?_
    rintro e w1 ⟨rfl, rfl⟩
    go_wp2_with fail
    go_ret
    exact ⟨_, _, _, rfl, RdF.one (S := Sn w.heap.size S) (S' := Sn w.heap.size S) _ (mk sItem []) (NdF.made sItem (RdF.nil _ _)) (fun _ _ h => h) _ (by simp only [World.size_alloc]) (.inr (by omega)), blOn (blAl _) _⟩
  · rw [kdTable]
    go_enter Try.func59, Try.ntmps59
    go_wp2_with fail
    refine (made52_any _ _ _ _ _).mono ?_
    rintro e w1 ⟨rfl, rfl⟩
    go_wp2_with fail
    refine (made52_any _ _ _ _ _).mono ?_
    rintro e w1 ⟨rfl, rfl⟩
    go_wp2_with fail
    go_ret
    have h1 := (RdF.one (w := w.alloc (.cells (mkV sCell none 0 0) 31)) (S := Sn w.heap.size S) (S' := Sn w.heap.size S) _ (mk sCell []) (NdF.made sCell (RdF.nil _ _)) (fun _ _ h => h) (w.heap.size + 1) (by simp only [World.size_alloc]) (.inr (by omega))).stay (.below (blAl (.cells (mkV sRow (some ⟨w.heap.size + 1, 0, none⟩) 1 1) 31)) fun _ _ h => h)
    refine ⟨_, _, _, rfl, RdF.one (S := Sn w.heap.size S) (S' := Sn w.heap.size S) _ (mk sRow [mk sCell []]) (NdF.made sRow h1) (fun _ _ h => h) _ (by simp only [World.size_alloc]) (.inr (by omega)), ?_⟩
    exact blOn (blOn (blOn (blAl _) _) _) _
  · rw [kdItem]
    go_enter Try.func59, Try.ntmps59
    go_wp2_with fail
    refine (made52_any _ _ _ _ _).mono ?_
    rintro e w1 ⟨rfl, rfl⟩
    go_wp2_with fail
    go_ret
    exact ⟨_, _, _, rfl, RdF.one (S := Sn w.heap.size S) (S' := Sn w.heap.size S) _ (mk sCell []) (NdF.made sCell (RdF.nil _ _)) (fun _ _ h => h) _ (by simp only [World.size_alloc]) (.inr (by omega)), blOn (blAl _) _⟩
  · rw [kdRow]
    go_enter Try.func59, Try.ntmps59
    go_wp2_with fail
    refine (made52_any _ _ _ _ _).mono ?_
    rintro e w1 ⟨rfl, rfl⟩
    go_wp2_with fail
    go_ret
    exact ⟨_, _, _, rfl, RdF.one (S := Sn w.heap.size S) (S' := Sn w.heap.size S) _ (mk sCell []) (NdF.made sCell (RdF.nil _ _)) (fun _ _ h => h) _ (by simp only [World.size_alloc]) (.inr (by omega)), blOn (blAl _) _⟩
  · rw [kdCell]
    go_enter Try.func59, Try.ntmps59
    go_wp2_with fail
    refine (made52_any _ _ _ _ _).mono ?_
    rintro e w1 ⟨rfl, rfl⟩
    go_wp2_with fail
    go_ret
    exact ⟨_, _, _, rfl, RdF.one (S := Sn w.heap.size S) (S' := Sn w.heap.size S) _ (mk sCell []) (NdF.made sCell (RdF.nil _ _)) (fun _ _ h => h) _ (by simp only [World.size_alloc]) (.inr (by omega)), blOn (blAl _) _⟩
  · rw [kdDoc]
    go_enter Try.func59, Try.ntmps59
    go_wp2_with fail
    refine (made52_any _ _ _ _ _).mono ?_
    rintro e w1 ⟨rfl, rfl⟩
    go_wp2_with fail
    go_ret
    exact ⟨_, _, _, rfl, RdF.one (S := Sn w.heap.size S) (S' := Sn w.heap.size S) _ (mk sCell []) (NdF.made sCell (RdF.nil _ _)) (fun _ _ h => h) _ (by simp only [World.size_alloc]) (.inr (by omega)), blOn (blAl _) _⟩
  · obtain ⟨hk, o1, o2, o3, o4, o5, o6, o7, o8, o9⟩ := odd_of h
    rw [hk]
    clear h
    go_enter Try.func59, Try.ntmps59
    go_wp2_with fail
    refine (made52_any _ _ _ _ _).mono ?_
    rintro e w1 ⟨rfl, rfl⟩
    go_wp2_with fail
    go_ret
    exact ⟨_, _, _, rfl, RdF.one (S := Sn w.heap.size S) (S' := Sn w.heap.size S) _ (mk sCell []) (NdF.made sCell (RdF.nil _ _)) (fun _ _ h => h) _ (by simp only [World.size_alloc]) (.inr (by omega)), blOn (blAl _) _⟩
end Go.Proofs.Ytcdhndhgainadaa
