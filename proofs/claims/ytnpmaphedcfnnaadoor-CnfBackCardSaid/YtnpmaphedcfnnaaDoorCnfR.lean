/-
  What made's formulas answer to, from any later world.
-/
import Derived.Test.YtnpmaphedcfnnaaDoorCnfP
import Derived.Test.YtnpmaphedcfnnaaDoorCnfQ
namespace Go.Proofs.YtnpmaphedcfnnaaDoor
open Go.ChangeShapes Go.WideShapes Go.ChangeAt Go.RowKit
set_option linter.unusedVariables false
theorem playA_good {v : Int} (h0 : 0 ≤ v) (h1 : v ≤ 65536) {xs : List ActC} (hl : lightB xs = true) : GoodA (playA v xs) xs.length := by
  have key : ∀ k, k ≤ xs.length → GoodA (playA v (xs.take k)) k := by
    intro k
    induction k with
    | zero => intro _; exact GoodA.start h0 h1
    | succ k ih =>
      intro hk
      rw [playA_step v xs k (by omega)]
      exact (ih (by omega)).step _ ((lightB_at hl).2 k (by omega))
  have := key _ (Nat.le_refl _)
  rwa [List.take_length] at this
section
variable {B : Nat} {w0 : World} {f : Nat} {sv : Int} {sl : List (List Int)} {out : Value} {k : Nat}
theorem at_small (hg : GoodA (sv, sl) k) (hk : k ≤ 60) : (∀ j, j < sl.length → (sl.getD j []).length ≤ 1000000) ∧ sl.length ≤ 1000 ∧ ∀ j, j < sl.length → Ok64 (sl.getD j []) ∧ (sl.getD j []).length ≤ 1000 := by
  have hn := hg.n
  simp at hn
  refine ⟨fun j hj => ?_, by omega, fun j hj => ⟨(hg.at_ hj).1, ?_⟩⟩
  · have : (sl.getD j []).length ≤ 60 := (hg.at_ hj).2; omega
  · have : (sl.getD j []).length ≤ 60 := (hg.at_ hj).2; omega
theorem all_Vars (h : FAt B w0 f sv sl) : ∀ W, Below w0.heap.size w0 W → Calls Tryd.prog 17 #[.pointer (some ⟨f, 0, none⟩)] W fun e w' => e = .returned (.int .i64 sv) ∧ Below w0.heap.size w0 w' :=
  fun W hb => (Vars_ (h.below hb)).mono fun e w' ⟨g1, g2⟩ => ⟨g1, g2 ▸ hb⟩
theorem all_Len (h : FAt B w0 f sv sl) : ∀ W, Below w0.heap.size w0 W → Calls Tryd.prog 18 #[.pointer (some ⟨f, 0, none⟩)] W fun e w' => e = .returned (.int .i64 sl.length) ∧ Below w0.heap.size w0 w' :=
  fun W hb => (Len_ (h.below hb)).mono fun e w' ⟨g1, g2⟩ => ⟨g1, g2 ▸ hb⟩
theorem all_Clauses (h : FAt B w0 f sv sl) (hg : GoodA (sv, sl) k) (hk : k ≤ 60) : ∀ W, Below w0.heap.size w0 W → Calls Tryd.prog 20 #[.pointer (some ⟨f, 0, none⟩)] W fun e w' => ∃ u, e = .returned u ∧ IntsS w' u sl ∧ Below w0.heap.size w0 w' :=
  fun W hb => (Clauses_ (h.below hb) (by have := (at_small hg hk).2.1; omega) (at_small hg hk).1).mono fun e w' ⟨u, g1, g2⟩ => ⟨u, g1, g2.intsS, hb.trans (g2.old.mono hb.size)⟩
theorem all_Lists (h : IntsS w0 out sl) : ∀ W u, Below w0.heap.size w0 W → IntsS W u sl → Calls Tryd.prog 19 #[u, out] W fun e w' => e = .returned (.bool true) ∧ Below w0.heap.size w0 w' :=
  fun W u hb hu => (Lists_same hu (h.below hb)).mono fun e w' ⟨g1, n, g2⟩ => ⟨g1, by subst g2; exact below_drewN hb n⟩
theorem all_Size (h : FAt B w0 f sv sl) (hg : GoodA (sv, sl) k) (hk : k ≤ 60) : ∀ W, Below w0.heap.size w0 W → Calls Tryd.prog 21 #[.pointer (some ⟨f, 0, none⟩)] W fun e w' => e = .returned (.int .i64 (sizeS sl)) ∧ Below w0.heap.size w0 w' :=
  fun W hb => (Size_ (h.below hb) (by have := (at_small hg hk).2.1; omega) (at_small hg hk).1).mono fun e w' ⟨g1, g2⟩ => ⟨g1, g2 ▸ hb⟩
theorem all_rSize (h : IntsS w0 out sl) (hg : GoodA (sv, sl) k) (hk : k ≤ 60) : ∀ W, Below w0.heap.size w0 W → Calls Tryd.prog 22 #[.agg #[.int .i64 sv, out]] W fun e w' => e = .returned (.int .i64 (sizeS sl)) ∧ Below w0.heap.size w0 w' :=
  fun W hb => (r18_Size (h.below hb) (by have := (at_small hg hk).2.1; omega) (at_small hg hk).1).mono fun e w' ⟨g1, g2⟩ => ⟨g1, hb.trans (g2.mono hb.size)⟩
theorem good_i64 (hg : GoodA (sv, sl) k) : i64ok sv := by
  have h0 := hg.v0
  have h1 := hg.v1
  simp at h0 h1
  exact ⟨by omega, by omega⟩
theorem all_Print (ht : Tab w0) (h : FAt B w0 f sv sl) (hg : GoodA (sv, sl) k) (hk : k ≤ 60) : ∀ W, Below w0.heap.size w0 W → Calls Tryd.prog 23 #[.pointer (some ⟨f, 0, none⟩)] W fun e w' => e = .returned (.string (bs (printT sv sl))) ∧ Below w0.heap.size w0 w' :=
  fun W hb => (Print_ (h.below hb) (ht.below hb) (good_i64 hg) (at_small hg hk).2.1 (at_small hg hk).2.2).mono fun e w' ⟨g1, g2⟩ => ⟨g1, hb.trans (g2.mono hb.size)⟩
theorem all_rPrint (h : IntsS w0 out sl) (hg : GoodA (sv, sl) k) (hk : k ≤ 60) : ∀ W, Below w0.heap.size w0 W → Calls Tryd.prog 24 #[.agg #[.int .i64 sv, out]] W fun e w' => e = .returned (.string (bs (printT sv sl))) ∧ Below w0.heap.size w0 w' :=
  fun W hb => (r18_Print (h.below hb) (good_i64 hg) (at_small hg hk).2.1 (at_small hg hk).2.2).mono fun e w' ⟨g1, g2⟩ => ⟨g1, hb.trans (g2.mono hb.size)⟩
end
end Go.Proofs.YtnpmaphedcfnnaaDoor
