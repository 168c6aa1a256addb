/-
  The law CnfCounts, walked.
-/
import Derived.Test.YtnpmaphedcfnnaaDoorCnfR
import Derived.Test.YtnpmaphedcfnnaaDoorCnfJ
import Derived.Test.YtnpmaphedcfnnaaDoorBoolsB
namespace Go.Proofs.YtnpmaphedcfnnaaDoor
open Go.ChangeShapes Go.WideShapes Go.ChangeAt Go.RowKit
set_option linter.unusedVariables false
def cntV (sv : Int) (sl : List (List Int)) (fs : List Int) : Int := if sv ≤ 12 then (cntG (goodB sl fs sv.toNat) (2 ^ sv.toNat) : Nat) else -1
def fstV (sv : Int) (sl : List (List Int)) (fs : List Int) : List Bool := if sv ≤ 12 then (match fstG (goodB sl fs sv.toNat) (2 ^ sv.toNat) with | none => [] | some i => model i sv.toNat) else []
theorem bools_nil (w : World) : Bools w (.slice none 0 0) [] := ⟨none, 0, rfl, by simp, by simp, .inl rfl⟩
section
variable {B : Nat} {w0 : World} {f : Nat} {sv : Int} {sl : List (List Int)} {out : Value} {k : Nat} {vf : Value} {fs : List Int}
theorem all_Count (h : FAt B w0 f sv sl) (hg : GoodA (sv, sl) k) (hv : Ints w0 vf fs) (hfs : ClauseL fs) : ∀ W, Below w0.heap.size w0 W → Calls Tryd.prog 12 #[.pointer (some ⟨f, 0, none⟩), vf] W fun e w' => ∃ u, e = .returned (.tuple #[.int .i64 (cntV sv sl fs), u]) ∧ Bools w' u (fstV sv sl fs) ∧ Below w0.heap.size w0 w' := by
  intro W hb
  unfold cntV fstV
  by_cases hn : sv ≤ 12
  · rw [if_pos hn, if_pos hn]
    have h0 : 0 ≤ sv := hg.v0
    have e : ((sv.toNat : Nat) : Int) = sv := by omega
    have hF := h.below hb
    rw [← e] at hF
    refine (Count_ (n := sv.toNat) hF (by omega) hg.all (hv.below hb) hfs).mono fun en w' ⟨u, g1, g2, g3⟩ => ⟨u, g1, ?_, hb.trans (g3.mono hb.size)⟩
    cases hq : fstG (goodB sl fs sv.toNat) (2 ^ sv.toNat) with
    | none => rw [hq] at g2; rw [show u = .slice none 0 0 from g2]; exact bools_nil _
    | some i => rw [hq] at g2; exact g2.1
  · rw [if_neg hn, if_neg hn]
    exact (Count_big (h.below hb) (by omega) vf).mono fun en w' ⟨g1, g2⟩ => ⟨_, g1, bools_nil _, g2 ▸ hb⟩
theorem all_rCount (h : IntsS w0 out sl) (hg : GoodA (sv, sl) k) (hv : Ints w0 vf fs) (hfs : ClauseL fs) : ∀ W, Below w0.heap.size w0 W → Calls Tryd.prog 13 #[.agg #[.int .i64 sv, out], vf] W fun e w' => ∃ u, e = .returned (.tuple #[.int .i64 (cntV sv sl fs), u]) ∧ Bools w' u (fstV sv sl fs) ∧ Below w0.heap.size w0 w' := by
  intro W hb
  unfold cntV fstV
  by_cases hn : sv ≤ 12
  · rw [if_pos hn, if_pos hn]
    have h0 : 0 ≤ sv := hg.v0
    have e : ((sv.toNat : Nat) : Int) = sv := by omega
    have hc := r18_Count (n := sv.toNat) (h.below hb) (by omega) hg.all (hv.below hb) hfs
    rw [e] at hc
    refine hc.mono fun en w' ⟨u, g1, g2, g3⟩ => ⟨u, g1, ?_, hb.trans (g3.mono hb.size)⟩
    cases hq : fstG (goodB sl fs sv.toNat) (2 ^ sv.toNat) with
    | none => rw [hq] at g2; rw [show u = .slice none 0 0 from g2]; exact bools_nil _
    | some i => rw [hq] at g2; exact g2
  · rw [if_neg hn, if_neg hn]
    obtain ⟨a, c, e, -, -⟩ := h.form
    exact (r18_Count_big a sl.length c e (by omega) vf).mono fun en w' ⟨g1, g2⟩ => ⟨_, g1, bools_nil _, hb.trans (g2.mono hb.size)⟩
theorem all_Same {u1 u2 : Value} {ml : List Bool} : ∀ W, Below w0.heap.size w0 W → Bools W u1 ml → Bools W u2 ml → Calls Tryd.prog 14 #[u1, u2] W fun e w' => e = .returned (.bool true) ∧ Below w0.heap.size w0 w' :=
  fun W hb h1 h2 => (r10_Same_self h1 h2).mono fun e w' ⟨g1, n, g2⟩ => ⟨g1, by subst g2; exact below_drewN hb n⟩
theorem all_Holds {mv : Value} {ms : List Bool} (h : FAt B w0 f sv sl) (hg : GoodA (sv, sl) k) (hm : Bools w0 mv ms) : ∀ W, Below w0.heap.size w0 W → Calls Tryd.prog 15 #[.pointer (some ⟨f, 0, none⟩), mv] W fun e w' => e = .returned (.int .i64 (ixB sl ms)) ∧ Below w0.heap.size w0 w' :=
  fun W hb => (Holds_ (h.below hb) hg.all (hm.below hb)).mono fun e w' ⟨g1, g2⟩ => ⟨g1, hb.trans (g2.mono hb.size)⟩
theorem all_rHolds {mv : Value} {ms : List Bool} (h : IntsS w0 out sl) (hg : GoodA (sv, sl) k) (hm : Bools w0 mv ms) : ∀ W, Below w0.heap.size w0 W → Calls Tryd.prog 16 #[.agg #[.int .i64 sv, out], mv] W fun e w' => e = .returned (.int .i64 (ixB sl ms)) ∧ Below w0.heap.size w0 w' :=
  fun W hb => (r18_Holds (h.below hb) hg.all (hm.below hb)).mono fun e w' ⟨g1, g2⟩ => ⟨g1, hb.trans (g2.mono hb.size)⟩
end
end Go.Proofs.YtnpmaphedcfnnaaDoor
