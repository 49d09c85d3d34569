/-
  The contracts again, at a footprint that bears all that is new.
-/
import Derived.Test.YtcdhndhgainadaaRowsF
namespace Go.Proofs.Ytcdhndhgainadaa
open Go Go.RowKit
set_option linter.unusedVariables false
set_option linter.unusedSimpArgs false

/-- what a call that answers a row owes, at a footprint F -/
def GivesF (W : World) (F : Nat → Prop) (ts : List RT) : Ending → World → Prop := fun e w' => ∃ A n c, e = .returned (.slice A n c) ∧ RdF w' F A n c ts ∧ Below W.heap.size W w'
section
variable {W : World} {F : Nat → Prop}
theorem GivesR.open_ {ts : List RT} {e : Ending} {w' : World} (hF : ∀ b, W.heap.size ≤ b → F b) (h : GivesR W (fun b => F b ∧ b < W.heap.size) ts e w') : GivesF W F ts e w' := by
  obtain ⟨A, n, c, h1, h2, h3⟩ := h
  exact ⟨A, n, c, h1, h2.stay (.weaken w' fun b _ h => h.elim (fun h => h.1) (hF b)), h3⟩
theorem fit_open {f : Nat} {p : ByteArray} (h : FitC f p) {A : Option Addr} {n c : Nat} {ts : List RT} (hG : ∀ t ∈ ts, Good t) (hn : n ≤ 900000) (hF : ∀ b, W.heap.size ≤ b → F b) (hr : RdF W F A n c ts) :
    Calls Try.prog f #[.string p, .slice A n c] W (GivesF W F (fitT (kd p) ts)) :=
  (h W (fun b => F b ∧ b < W.heap.size) A n c ts hG hn (fun b h => h.2) (hr.stay (.weaken W fun b hb h => ⟨h, hb⟩))).mono fun e w' h => h.open_ hF
theorem row_open {f N : Nat} (h : RowC f N) {A : Option Addr} {n c : Nat} {ts : List RT} (h1 : rsizeL ts < N) (h2 : rsizeL ts ≤ 100000) (hF : ∀ b, W.heap.size ≤ b → F b) (hr : RdF W F A n c ts) :
    Calls Try.prog f #[.slice A n c] W (GivesF W F (rowT ts)) :=
  (h ts h1 h2 W (fun b => F b ∧ b < W.heap.size) A n c (fun b h => h.2) (hr.stay (.weaken W fun b hb h => ⟨h, hb⟩))).mono fun e w' h => h.open_ hF
theorem ahead_open {TA : Option Addr} {tn tc : Nat} {tx : List Pce} {A : Option Addr} {n c : Nat} {ts : List RT} (hn : n ≤ 900000) (hF : ∀ b, W.heap.size ≤ b → F b) (hp : RdPF W F TA tn tc tx) (hr : RdF W F A n c ts) :
    Calls Try.prog 42 #[.slice TA tn tc, .slice A n c] W (GivesF W F (toldT tx ++ ts)) :=
  (ahead42_any TA tn tc tx A n c ts W (fun b => F b ∧ b < W.heap.size) (fun b h => h.2) (hp.stay (.weaken W fun b hb h => ⟨h, hb⟩)) (hr.stay (.weaken W fun b hb h => ⟨h, hb⟩)) hn).mono fun e w' h => h.open_ hF
/-- a row of the call's own -/
def GivesP (W : World) (F : Nat → Prop) (ts : List RT) : Ending → World → Prop := fun e w' => ∃ A c zs, e = .returned (.slice A zs.length c) ∧ vz zs = ts ∧ Row w' W.heap.size (fun b => F b ∧ b < W.heap.size) (.slice A zs.length c) zs ∧ Below W.heap.size W w'
theorem told_open {TA : Option Addr} {tn tc : Nat} {tx : List Pce} (hp : RdPF W F TA tn tc tx) : Calls Try.prog 39 #[.slice TA tn tc] W (GivesP W F (toldT tx)) :=
  told39_any TA tn tc tx W (fun b => F b ∧ b < W.heap.size) (hp.stay (.weaken W fun b hb h => ⟨h, hb⟩))
theorem least_open (k : ByteArray) (hF : ∀ b, W.heap.size ≤ b → F b) : Calls Try.prog 59 #[.string k] W (GivesF W F [leastT (kd k)]) :=
  (least59_any k W (fun b => F b ∧ b < W.heap.size)).mono fun e w' h => h.open_ hF
def GivesG (W : World) (F : Nat → Prop) (t : RT) : Ending → World → Prop := fun e w' => ∃ v : Array Value, e = .returned (.agg v) ∧ NdF w' F v.toList t ∧ Below W.heap.size W w'
theorem least_openN (k : ByteArray) (hF : ∀ b, W.heap.size ≤ b → F b) : Calls Try.prog 58 #[.string k] W (GivesG W F (leastT (kd k))) :=
  (least58_any k W (fun b => F b ∧ b < W.heap.size)).mono fun e w' h => by
    obtain ⟨v, h1, h2, h3⟩ := h
    exact ⟨v, h1, h2.stay (.weaken w' fun b _ h => h.elim (fun h => h.1) (hF b)), h3⟩
theorem set_stay {w : World} {F F' : Nat → Prop} {p : Addr} (u : Value) (h : ∀ b, F b → b ≠ p.block) (hs : ∀ b, F b → F' b) : Stay w (w.setCell p u) F F' :=
  ⟨by simp [World.setCell], fun b _ hb => hs b hb, fun b _ hb => Below.heap_setCell _ _ _ _ (h b hb)⟩
theorem NdF.node {w : World} {F : Nat → Prop} {n r : Int} {k : ByteArray} {AA : Option Addr} {an ac : Nat} {TA : Option Addr} {tn tc : Nat} {A : Option Addr} {m c : Nat} {at_ : List Att} {tx : List Pce} {ks : List RT}
    (ha : RdAF w F AA an ac at_) (hp : RdPF w F TA tn tc tx) (hk : RdF w F A m c ks) : NdF w F [.int .i64 n, .int .i64 r, .string k, .slice AA an ac, .slice TA tn tc, .slice A m c] (.node n r k at_ tx ks) :=
  NdP.whole ⟨rfl, ha, hp, hk⟩
theorem okIn_good {t : RT} (h : okIn t) : Good t := by
  unfold Good
  rcases okIn_kind h with h | h | h | h | h | h | h | h <;> (unfold RT.kdOf at h; rw [h]; exact ⟨rfl, by decide⟩)
theorem rowT_good (ts : List RT) : ∀ t ∈ rowT ts, Good t := fun t ht => okIn_good (rowT_in ts t ht)
theorem toldT_good (tx : List Pce) : ∀ t ∈ toldT tx, Good t := fun t ht => okIn_good (toldT_in tx t ht)
theorem toldT_len (tx : List Pce) : (toldT tx).length ≤ 1 := by unfold toldT; split <;> simp
end
theorem kd_para {k : ByteArray} (h : kd k = .para) : k = sPara := by
  rcases kd_cases k with rfl | rfl | rfl | rfl | rfl | rfl | rfl | rfl | rfl | h1
  case inr.inr.inr.inr.inr.inr.inr.inr.inr => rw [kd_other h1] at h; cases h
  all_goals first | rfl | (exact absurd h (by decide))
end Go.Proofs.Ytcdhndhgainadaa
