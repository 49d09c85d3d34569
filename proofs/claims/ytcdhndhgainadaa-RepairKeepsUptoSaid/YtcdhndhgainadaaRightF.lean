/-
  The contracts of Fault and Right of package grammar; of Count.
-/
import Derived.Test.YtcdhndhgainadaaFirstF
namespace Go.Proofs.Ytcdhndhgainadaa
open Go Go.RowKit
set_option linter.unusedVariables false

set_option maxRecDepth 100000 in
set_option maxHeartbeats 4000000 in
theorem gfault_any {t : Tree} {v : List Value} {B : Nat} {w : World} (hNd : Nd w B v t) (hB : B ≤ w.heap.size) :
    Calls Try.prog 20 #[.agg v.toArray] w fun e w' => e = .returned (fltV (faultT true .other t)) ∧ Below w.heap.size w w' := by
  obtain ⟨n, r, k, AA, an, ac, TA, tn, tc, A, m, c, rfl⟩ := hNd.six
  have hF : Below w.heap.size w ((w.alloc (.cells #[.int .i64 n, .int .i64 r, .string k, .slice AA an ac, .slice TA tn tc, .slice A m c] 31)).alloc (.cells #[.int .i64 0, .int .i64 0] 26)) := ((Below.refl _ w).alloc (Nat.le_refl _) _).alloc (by simp) _
  have HC := Lib.hid (first_any (tsz t + 1) t (Nat.lt_succ_self _) _ ⟨#[]⟩ true (by rw [ByteArray.toList_eq]; rfl) B _ (hNd.keep (Nat.le_refl _) fun q hq => hF.cell (Nat.lt_of_lt_of_le hq hB)) (Nat.le_trans hB hF.size))
  have hR := BoxN.made (w.alloc (.cells #[.int .i64 n, .int .i64 r, .string k, .slice AA an ac, .slice TA tn tc, .slice A m c] 31)) #[.int .i64 0, .int .i64 0] 26
  rw [World.size_alloc] at hR
  have HF := Lib.hid hF
  have HR := Lib.hid hR
  have hk : kd ⟨#[]⟩ = .other := by decide
  rw [hk] at HC
  obtain ⟨xn, xr, xy, hx⟩ : ∃ xn xr xy, faultT true .other t = (xn, xr, xy) := ⟨_, _, _, rfl⟩
  rw [hx] at HC ⊢
  simp only [fltV] at HC ⊢
  clear hNd hF hR hk hx
  go_enter Try.func20, Try.ntmps20
  go_wp2_with fail
  refine HC.out.mono ?_
  rintro e w4 ⟨rfl, hB4⟩
  have hR4 := HR.out.below hB4 (by simp)
  have y0 : w4.cell? ⟨w.heap.size + 1, 0, none⟩ = some (.int .i64 0) := hR4.cell (j := 0) rfl
  have y1 : w4.cell? ⟨w.heap.size + 1, 1, none⟩ = some (.int .i64 0) := hR4.cell (j := 1) rfl
  have y2 : w4.frozen? ⟨w.heap.size + 1, 0, none⟩ = false := hR4.frozen
  have y3 : w4.frozen? ⟨w.heap.size + 1, 1, none⟩ = false := hR4.frozen
  have hR5 := hR4.set2 (.int .i64 xn) (.int .i64 xr)
  have r0 := hR5.cell (j := 0) rfl
  have r1 := hR5.cell (j := 1) rfl
  have HBF := Lib.hid (((HF.out.trans (hB4.mono HF.out.size)).setCell (p := ⟨w.heap.size + 1, 0, none⟩) (by simp) (.int .i64 xn)).setCell (p := ⟨w.heap.size + 1, 1, none⟩) (by simp) (.int .i64 xr))
  clear hR4 hR5 hB4 HC HR HF
  go_wp2_with fail
  refine bodyPost_ret (v := .tuple #[.agg #[.int .i64 xn, .int .i64 xr], .string xy.str]) (by simp [results, Try.results20, go_sem, r0, r1]) rfl ?_
  exact ⟨rfl, HBF.out⟩

/-- is a tree well-formed -/
def rightT (t : Tree) : Bool := decide ((faultT true .other t).2.2 = .fine)

set_option maxRecDepth 100000 in
set_option maxHeartbeats 4000000 in
theorem gright_any {t : Tree} {v : List Value} {B : Nat} {w : World} (hNd : Nd w B v t) (hB : B ≤ w.heap.size) :
    Calls Try.prog 22 #[.agg v.toArray] w fun e w' => e = .returned (.bool (rightT t)) ∧ Below w.heap.size w w' := by
  obtain ⟨n, r, k, AA, an, ac, TA, tn, tc, A, m, c, rfl⟩ := hNd.six
  have hF : Below w.heap.size w (w.alloc (.cells #[.int .i64 n, .int .i64 r, .string k, .slice AA an ac, .slice TA tn tc, .slice A m c] 31)) := (Below.refl _ w).alloc (Nat.le_refl _) _
  have HC := Lib.hid (gfault_any (hNd.keep (Nat.le_refl _) fun q hq => hF.cell (Nat.lt_of_lt_of_le hq hB)) (Nat.le_trans hB hF.size))
  have HF := Lib.hid hF
  have hrt : rightT t = decide ((faultT true .other t).2.2 = .fine) := rfl
  obtain ⟨xn, xr, xy, hx⟩ : ∃ xn xr xy, faultT true .other t = (xn, xr, xy) := ⟨_, _, _, rfl⟩
  rw [hx] at HC hrt
  simp only [fltV] at HC
  have HRT := Lib.hid hrt
  clear hNd hF hx hrt
  go_enter Try.func22, Try.ntmps22
  go_wp2_with fail
  refine HC.out.mono ?_
  rintro e w4 ⟨rfl, hB4⟩
  have HBF := Lib.hid (HF.out.trans (hB4.mono HF.out.size))
  clear hB4 HC HF
  go_wp2_with fail
  go_ret
  exact ⟨by rw [HRT.out]; exact ret_bool (by rw [← Wy.str_fine]; cases xy.str.toList <;> rfl), HBF.out.alloc HBF.out.size _⟩

/-- two nodes and a list, made in place -/
theorem Nd.of_list {w : World} {B : Nat} (n r : Int) (k : ByteArray) (AA : Option Addr) (an ac : Nat) (TA : Option Addr) (tn tc : Nat) (b c : Nat) (v : List Value) (t : Tree) (hv : Nd w B v t) (hb : b < B) (hc : ∀ j u, v[j]? = some u → w.cell? ⟨b, j, none⟩ = some u) (h1 : 1 ≤ c) (h2 : c ≤ 9223372036854775807) (htn : tn ≤ 9223372036854775807) :
    Nd w B [.int .i64 n, .int .i64 r, .string k, .slice AA an ac, .slice TA tn tc, .slice (some ⟨b, 0, none⟩) 1 c] (.node n r k tn [t]) :=
  .mk n r k AA an ac (some ⟨b, 0, none⟩) c TA tn tc (fun _ => v) [t] (.inr ⟨b, 0, rfl, hb, fun i hi j u hu => by
    have hi' : i < 1 := hi
    obtain rfl : i = 0 := by omega
    rw [← hc j u hu]; simp⟩) (fun i u hu => by
    cases i with
    | zero => simp at hu; subst hu; exact hv
    | succ i => simp at hu) h1 h2 htn
theorem Nd.leaf {w : World} {B : Nat} (n r : Int) (k : ByteArray) (AA : Option Addr) (an ac : Nat) (TA : Option Addr) (tn tc : Nat) (A : Option Addr) (c : Nat) (h2 : c ≤ 9223372036854775807) (htn : tn ≤ 9223372036854775807) :
    Nd w B [.int .i64 n, .int .i64 r, .string k, .slice AA an ac, .slice TA tn tc, .slice A 0 c] (.node n r k tn []) :=
  .mk n r k AA an ac A c TA tn tc (fun _ => []) [] (.inl rfl) (fun i u hu => by simp at hu) (Nat.zero_le _) h2 htn

def tItem : Tree := .node 0 0 sItem 0 []
def tList : Tree := .node 0 0 sList 0 [tItem]
def tDoc : Tree := .node 0 0 sDoc 0 [tList]
theorem right_doc : rightT tDoc = true := by simp [rightT, tDoc, tList, tItem, faultT, faultL, wy, kdDoc, kdList, kdItem, Kd.known, Kd.allows, Kd.flow, Kd.needs, Kd.holds]
theorem right_list : rightT tList = false := by simp [rightT, tList, faultT, wy, kdList]
theorem hold_para : (kd sPara).holds = true := by rw [kdPara]; rfl

abbrev vItem : Array Value := #[.int .i64 0, .int .i64 0, .string sItem, .slice none 0 0, .slice none 0 0, .slice none 0 0]
abbrev vList (b : Nat) : Array Value := #[.int .i64 0, .int .i64 0, .string sList, .slice none 0 0, .slice none 0 0, .slice (some ⟨b, 0, none⟩) 1 1]
abbrev vDoc (b : Nat) : Array Value := #[.int .i64 0, .int .i64 0, .string sDoc, .slice none 0 0, .slice none 0 0, .slice (some ⟨b, 0, none⟩) 1 1]

set_option maxRecDepth 100000 in
set_option maxHeartbeats 4000000 in
theorem alive_any (w : World) : Calls Try.prog 14 #[] w fun e w' => e = .returned (.bool true) ∧ Below w.heap.size w w' := by
  obtain ⟨W3, hW3⟩ : ∃ W3, ((w.alloc (.cells vItem 31)).alloc (.cells (vList w.heap.size) 31)).alloc (.cells (vList w.heap.size) 31) = W3 := ⟨_, rfl⟩
  have b0 : BoxN W3 w.heap.size vItem 31 := by rw [← hW3]; exact ((BoxN.made w vItem 31).alloc _).alloc _
  have b1 : BoxN W3 (w.heap.size + 1) (vList w.heap.size) 31 := by
    have := (BoxN.made (w.alloc (.cells vItem 31)) (vList w.heap.size) 31).alloc (.cells (vList w.heap.size) 31)
    rw [World.size_alloc] at this
    rw [← hW3]; exact this
  have b2 : BoxN W3 (w.heap.size + 1 + 1) (vList w.heap.size) 31 := by
    have := BoxN.made ((w.alloc (.cells vItem 31)).alloc (.cells (vList w.heap.size) 31)) (vList w.heap.size) 31
    rw [World.size_alloc, World.size_alloc] at this
    rw [← hW3]; exact this
  have hF : Below w.heap.size w W3 := by
    rw [← hW3]; exact (((Below.refl _ w).alloc (Nat.le_refl _) _).alloc (by simp) _).alloc (by simp; omega) _
  have hz : W3.heap.size = w.heap.size + 3 := by rw [← hW3]; simp
  have nI : ∀ {W : World}, Nd W (w.heap.size + 3) [.int .i64 0, .int .i64 0, .string sItem, .slice none 0 0, .slice none 0 0, .slice none 0 0] tItem := Nd.leaf 0 0 sItem none 0 0 none 0 0 none 0 (by omega) (by omega)
  have nL : ∀ (W : World), BoxN W w.heap.size vItem 31 → Nd W (w.heap.size + 3) [.int .i64 0, .int .i64 0, .string sList, .slice none 0 0, .slice none 0 0, .slice (some ⟨w.heap.size, 0, none⟩) 1 1] tList := fun W h =>
    Nd.of_list 0 0 sList none 0 0 none 0 0 w.heap.size 1 _ tItem nI (by omega) (fun j u hu => h.cell (by simpa using hu)) (by omega) (by omega) (by omega)
  have nD : Nd W3 (w.heap.size + 3) [.int .i64 0, .int .i64 0, .string sDoc, .slice none 0 0, .slice none 0 0, .slice (some ⟨w.heap.size + 1 + 1, 0, none⟩) 1 1] tDoc :=
    Nd.of_list 0 0 sDoc none 0 0 none 0 0 (w.heap.size + 1 + 1) 1 _ tList (nL _ b0) (by omega) (fun j u hu => b2.cell (by simpa using hu)) (by omega) (by omega) (by omega)
  have HC := Lib.hid (gright_any nD (by omega))
  rw [right_doc] at HC
  have HB0 := Lib.hid b0
  have HB1 := Lib.hid b1
  have HF := Lib.hid hF
  have HZ := Lib.hid hz
  have HNL := Lib.hid nL
  have HW := Lib.hid hW3
  clear b0 b1 b2 hF hz nI nL nD hW3
  go_enter Try.func14, Try.ntmps14
  go_wp2_with fail
  have hW : (((w.alloc (.cells vItem 31)).alloc (.cells (vList w.heap.size) 31)).alloc (.cells (vList w.heap.size) 31)) = W3 := HW.out
  simp only [hW]
  refine HC.out.mono ?_
  rintro e w4 ⟨rfl, hB4⟩
  have hb1 := HB1.out.below hB4 (by have := HZ.out; omega)
  have hb0 := HB0.out.below hB4 (by have := HZ.out; omega)
  have c0 : w4.cell? ⟨w.heap.size + 1, 0, none⟩ = some (.int .i64 0) := hb1.cell (j := 0) rfl
  have c1 : w4.cell? ⟨w.heap.size + 1, 1, none⟩ = some (.int .i64 0) := hb1.cell (j := 1) rfl
  have c2 : w4.cell? ⟨w.heap.size + 1, 2, none⟩ = some (.string sList) := hb1.cell (j := 2) rfl
  have c3 : w4.cell? ⟨w.heap.size + 1, 3, none⟩ = some (.slice none 0 0) := hb1.cell (j := 3) rfl
  have c4 : w4.cell? ⟨w.heap.size + 1, 4, none⟩ = some (.slice none 0 0) := hb1.cell (j := 4) rfl
  have c5 : w4.cell? ⟨w.heap.size + 1, 5, none⟩ = some (.slice (some ⟨w.heap.size, 0, none⟩) 1 1) := hb1.cell (j := 5) rfl
  have hsz4 : w.heap.size + 3 ≤ w4.heap.size := by have := HZ.out; have := hB4.size; omega
  have HC2 := Lib.hid (gright_any (HNL.out _ hb0) hsz4)
  rw [right_list] at HC2
  have HF4 := Lib.hid (HF.out.trans (hB4.mono HF.out.size))
  clear hb1 hb0 hsz4 hB4 HC HB0 HB1 HNL HW hW HZ
  go_wp2_with fail
  refine HC2.out.mono ?_
  rintro e w5 ⟨rfl, hB5⟩
  have HF5 := Lib.hid (HF4.out.trans (hB5.mono HF4.out.size))
  clear hB5
  go_wp2_with fail
  refine (holds_any sPara w5).mono ?_
  rintro e w6 ⟨rfl, hB6⟩
  rw [hold_para]
  have HF6 := Lib.hid (HF5.out.trans (hB6.mono HF5.out.size))
  clear hB6
  go_wp2_with fail
  go_ret
  exact ⟨rfl, HF6.out⟩
end Go.Proofs.Ytcdhndhgainadaa
