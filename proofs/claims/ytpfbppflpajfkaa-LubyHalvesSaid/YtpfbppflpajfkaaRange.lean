/-
  A RANGE OVER A FUNCTION THAT NEVER RETURNS BY ITSELF: the rounds' bound comes from the caller: between two rounds fewer than N have come.
-/
import Derived.Test.YtpfbppflpajfkaaKit
import Derived.RangeFuncNested
import Derived.RangeFuncBound
import Derived.RangeFuncCalls
import Derived.RangeFuncLeaves
import Derived.Shelf.Abstract
import Derived.Shelf.RegionOpen
import Derived.OwnWalkIn
import Derived.TacticsInMore
import Derived.LoopNIn
import Derived.LoopIn
namespace Go.Proofs.Ytpfbppflpajfkaa.Rg
open Go Go.RowKit Go.Shelf
set_option linter.unusedVariables false
/-- How a round's body may be left. -/
def roundEnds (I : Nat → World → Prop) (Ix : Code → World → Prop) (k : Nat) (W : World) : Exit → Act → World → Prop
  | .normal, _, W' => KeepsOthers W W' ∧ I (k + 1) W'
  | .ret, _, W' => KeepsOthers W W' ∧ Ix .ret W'
  | .exit id, _, W' => KeepsOthers W W' ∧ Ix (.exit id) W'
  | .goto t, _, W' => KeepsOthers W W' ∧ Ix (.goto t) W'
  | .panic _, _, _ => False
  | .outgrown, _, _ => False
/-- The iterator's word: the k-th call of yield hands over enc k; it returns when a round has said 'no more', given that the caller's rounds come to an end. -/
def Endless (F : Fence) (n : Nat) (P : Program) (g : Nat) (lb : Array Value) (enc : Nat → Array Value) (N : Nat) : Prop :=
  ∀ (l : Nat) (J : Nat → World → Prop) (Jx : World → Prop) (W : World), (∀ k W1, J k W1 → k < N) →
    (∀ k W1, J k W1 → YieldAt F (n - 1) P l (enc k) W1 fun e W' => (e = .returned (.bool true) ∧ J (k + 1) W') ∨ (e = .returned (.bool false) ∧ Jx W')) →
    J 0 W → CallsIn F n P g (#[.func (.yield l) #[] #[]] ++ lb) W fun e W' => (∃ v, e = .returned v) ∧ Jx W'
variable {F : Fence} {n : Nat} {P : Program}
theorem wpIn_endless {g : Operand} {ps : Array Tmp} {assign body : Code} {Q : Exit → Act → World → Prop} {a : Act} {w : World}
    (hro : F.round = none) (h1 : 1 ≤ n) {gf : Nat} {lb : Array Value} (hg : a.eval g = .func (.func gf) #[] lb) (hFg : F.fn gf) (eg : ∀ args w, (callFunc gf args).run P w = .ok (.enter gf args) w)
    {enc : Nat → Array Value} {N : Nat} (hseq : Endless F (n - 1) P gf lb enc N) (hps : ∀ k, (enc k).size = ps.size)
    (I : Nat → World → Prop) (Ix : Code → World → Prop)
    (hI : ∀ k W l o o', I k W → W.heap[l]? = some o → o.isCells = false → w.heap.size ≤ l → I k (W.putObj l o'))
    (hIx : ∀ c W l o o', Ix c W → W.heap[l]? = some o → o.isCells = false → w.heap.size ≤ l → Ix c (W.putObj l o'))
    (hN : ∀ k W, I k W → k < N) (h0 : ∀ o o', I 0 ((w.alloc o).alloc o')) (a₁ : Nat → Act)
    (hassign : ∀ (l k : Nat) (W : World) (K : Act → World → Prop), K (a₁ k) W →
      assign.wpIn (F.inRound l) (n - 1 - 1) P (Exit.then K (fun _ _ _ => False)) { tmps := (ps.zip (enc k)).foldl (fun t (p, v) => t.setIfInBounds p v) a.tmps, defers := [] } W)
    (hbody : ∀ (l k : Nat) (W : World), I k W → body.wpIn (F.inRound l) (n - 1 - 1) P (roundEnds I Ix k W) (a₁ k) W)
    (hstop : ∀ (D : Nat) (c : Code) (W : World), w.heap.size ≤ D → Ix c W → W.heap[D]? = some (.deferred (some [])) → c.wpIn F n P Q { a with defers := { target := .collected D, args := #[] } :: a.defers } W) :
    (Code.rangeFunc g ps assign body).wpIn F n P Q a w := by
  refine wpIn_rangeFunc fun fn hfn => ?_
  rw [hro]
  -- the record, in each of its states
  let rec_ : LoopState → Option Code → Loop := fun st pe => { state := st, pending := pe, fn, tmps := a.tmps, params := ps, assign, body, defers := w.heap.size }
  let W1 : World := (w.alloc (.deferred (some []))).alloc (.loop (rec_ .ready none))
  have lR : W1.heap[w.heap.size + 1]? = some (.loop (rec_ .ready none)) := by
    have := World.alloc_heap_new (w.alloc (.deferred (some []))) (.loop (rec_ .ready none))
    rwa [World.size_alloc] at this
  have lD : W1.heap[w.heap.size]? = some (.deferred (some [])) := (Below.heap_alloc _ _ _ (by simp)).trans (World.alloc_heap_new w _)
  refine ⟨w.heap.size + 1, [{ target := .collected w.heap.size, args := #[] }], W1, { target := .fn (.func gf) lb, args := #[.func (.yield (w.heap.size + 1)) #[] #[]] }, W1, gf,
    #[.func (.yield (w.heap.size + 1)) #[] #[]] ++ lb, W1, run_enterLoop_outer _ _ _ _ _, by simp only [resolve, hg]; simp [go_sem], ?_, by simp [invoke, go_sem, eg], fun _ => h1, ?_⟩
  · intro f' hf'
    simp [Target.leads] at hf'
    subst hf'
    exact hFg
  refine (hseq (w.heap.size + 1) (fun k W => I k W ∧ W.heap[w.heap.size + 1]? = some (.loop (rec_ .ready none)) ∧ W.heap[w.heap.size]? = some (.deferred (some [])))
    (fun W => ∃ c, Ix c W ∧ W.heap[w.heap.size + 1]? = some (.loop (rec_ .done (some c))) ∧ W.heap[w.heap.size]? = some (.deferred (some []))) W1
    (fun k W h => hN k W h.1) ?_ ⟨h0 _ _, lR, lD⟩).mono ?_
  · rintro k W ⟨hi, hl, hd⟩
    have hlt : w.heap.size + 1 < W.heap.size := (Array.getElem?_eq_some_iff.1 hl).1
    let Wb : World := W.putObj (w.heap.size + 1) (.loop (rec_ .busy none))
    have bl : Wb.heap[w.heap.size + 1]? = some (.loop (rec_ .busy none)) := World.putObj_heap_same hlt
    have bd : Wb.heap[w.heap.size]? = some (.deferred (some [])) := (World.putObj_heap_other (by omega)).trans hd
    refine ⟨fn, _, assign, body, run_yield (P := P) (args := enc k) hl (hps k), roundIn_of_wpIn hfn (hassign _ k W _ ⟨Wb, run_beginRound hl rfl, ?_⟩)⟩
    refine wpIn_mono (hbody _ k Wb (hI _ _ _ _ _ hi hl rfl (by omega))) ?_
    have ends : ∀ (jump : Option Code) (W3 : World), KeepsOthers Wb W3 →
        (Instr.endRound (w.heap.size + 1) jump).run P W3 = .ok (.bool jump.isNone) (W3.putObj (w.heap.size + 1) (.loop (rec_ (if jump.isNone then .ready else .done) jump))) ∧
        W3.heap[w.heap.size + 1]? = some (.loop (rec_ .busy none)) ∧
        (W3.putObj (w.heap.size + 1) (.loop (rec_ (if jump.isNone then .ready else .done) jump))).heap[w.heap.size + 1]? = some (.loop (rec_ (if jump.isNone then .ready else .done) jump)) ∧
        (W3.putObj (w.heap.size + 1) (.loop (rec_ (if jump.isNone then .ready else .done) jump))).heap[w.heap.size]? = some (.deferred (some [])) := fun jump W3 hk => by
      have l3 := hk.same _ _ bl rfl
      exact ⟨run_endRound jump l3, l3, World.putObj_heap_same (Array.getElem?_eq_some_iff.1 l3).1, (World.putObj_heap_other (by omega)).trans (hk.same _ _ bd rfl)⟩
    intro e a3 W3 hp
    cases e with
    | normal =>
      obtain ⟨x1, x2, x3, x4⟩ := ends none W3 hp.1
      exact ⟨_, _, x1, .inl ⟨rfl, hI _ _ _ _ _ hp.2 x2 rfl (by omega), x3, x4⟩⟩
    | ret =>
      obtain ⟨x1, x2, x3, x4⟩ := ends (some .ret) W3 hp.1
      exact ⟨_, _, x1, .inr ⟨rfl, .ret, hIx _ _ _ _ _ hp.2 x2 rfl (by omega), x3, x4⟩⟩
    | exit id =>
      obtain ⟨x1, x2, x3, x4⟩ := ends (some (.exit id)) W3 hp.1
      exact ⟨_, _, x1, .inr ⟨rfl, .exit id, hIx _ _ _ _ _ hp.2 x2 rfl (by omega), x3, x4⟩⟩
    | goto t =>
      obtain ⟨x1, x2, x3, x4⟩ := ends (some (.goto t)) W3 hp.1
      exact ⟨_, _, x1, .inr ⟨rfl, .goto t, hIx _ _ _ _ _ hp.2 x2 rfl (by omega), x3, x4⟩⟩
    | panic ch => exact hp.elim
    | outgrown => exact hp.elim
  · rintro e W2 ⟨⟨v, rfl⟩, c, hi, hl, hd⟩
    exact ⟨some c, _, run_endLoop (P := P) hl (fun h => by cases h), hstop _ c _ (Nat.le_refl _) (hIx _ _ _ _ _ hi hl rfl (by omega)) ((World.putObj_heap_other (by omega)).trans hd)⟩
end Go.Proofs.Ytpfbppflpajfkaa.Rg
