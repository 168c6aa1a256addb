/-
  Lists of numbers of the call's own beside blocks that stay as they are.
-/
import Derived.Test.YtlahecdpcpejpaaDoorOwnB
namespace Go.Proofs.YtlahecdpcpejpaaDoor
open Go.ChangeShapes Go.WideShapes Go.ChangeAt Go.RowKit
set_option linter.unusedVariables false
/-- A list of numbers of the call's own; bs: blocks that it does not lie in, and what they hold. -/
structure OwnC (w wr : World) (out : Value) (xs : List Int) (bs : List (Nat × Obj)) : Prop where
  own : OwnI w wr out xs
  kept : ∀ p ∈ bs, wr.heap[p.1]? = some p.2
  far : ∀ p ∈ bs, out.ownBlock ≠ some p.1
theorem heap_lt {w : World} {k : Nat} {o : Obj} (h : w.heap[k]? = some o) : k < w.heap.size := by
  rcases Nat.lt_or_ge k w.heap.size with h1 | h1
  · exact h1
  · rw [Array.getElem?_eq_none h1] at h; cases h
theorem OwnC.start {w wr : World} {out : Value} {xs : List Int} (h : OwnI w wr out xs) : OwnC w wr out xs [] := ⟨h, (fun _ h => by cases h), (fun _ h => by cases h)⟩
theorem OwnC.below {w wr wx : World} {out : Value} {xs : List Int} {bs : List (Nat × Obj)} (h : OwnC w wr out xs bs) (hb : Below wr.heap.size wr wx) : OwnC w wx out xs bs :=
  ⟨h.own.below hb, fun p hp => (hb.block p.1 (heap_lt (h.kept p hp))).trans (h.kept p hp), h.far⟩
theorem OwnC.push {w wr : World} {out : Value} {xs : List Int} {bs : List (Nat × Obj)} (h : OwnC w wr out xs bs) (o : Obj) : OwnC w (wr.alloc o) out xs ((wr.heap.size, o) :: bs) := by
  have h' := h.below (below_new1 wr o)
  refine ⟨h'.own, fun p hp => ?_, fun p hp => ?_⟩
  · rcases List.mem_cons.1 hp with rfl | hp
    · exact heap_new1 _ _
    · exact h'.kept p hp
  · rcases List.mem_cons.1 hp with rfl | hp
    · intro e
      have := h.own.1.lt _ e
      simp at this
    · exact h'.far p hp
theorem OwnC.pop {w wr : World} {out : Value} {xs : List Int} {b : Nat × Obj} {bs : List (Nat × Obj)} (h : OwnC w wr out xs (b :: bs)) : OwnC w wr out xs bs :=
  ⟨h.own, fun p hp => h.kept p (List.mem_cons_of_mem _ hp), fun p hp => h.far p (List.mem_cons_of_mem _ hp)⟩
theorem OwnC.head {w wr : World} {out : Value} {xs : List Int} {b : Nat} {o : Obj} {bs : List (Nat × Obj)} (h : OwnC w wr out xs ((b, o) :: bs)) : wr.heap[b]? = some o := h.kept (b, o) (List.mem_cons_self ..)
theorem OwnC.head2 {w wr : World} {out : Value} {xs : List Int} {b : Nat} {o : Obj} {c : Nat × Obj} {bs : List (Nat × Obj)} (h : OwnC w wr out xs (c :: (b, o) :: bs)) : wr.heap[b]? = some o := h.pop.head
theorem OwnC.app {w wr w' : World} {v v' : Value} {xs ys : List Int} {bs : List (Nat × Obj)} (h : OwnC w wr v xs bs) (hp : AppPost wr 3 1 v (xs.length + ys.length) (xs.map iv ++ ys.map iv) v' w') : OwnC w w' v' (xs ++ ys) bs := by
  refine ⟨h.own.app hp, fun p hp' => hp.2.1.at_ (h.kept p hp') (h.far p hp'), fun p hp' e => ?_⟩
  rcases hp.2.2 with e' | e'
  · exact h.far p hp' (e' ▸ e)
  · rw [e'] at e
    injection e with e
    have := heap_lt (h.kept p hp')
    omega
theorem wpList_C {w wr : World} {bs : List (Nat × Obj)} {ops : Array Oper} {rest : List Oper} {o : Oper} {a : Act} {Q : Exit → Act → World → Prop} (hgd : o.guard = none) (s x : Operand)
    (ho : o.op = .call { callee := .builtin .append, args := #[s, x], argTypes := #[23, 23] })
    (v : Value) (xs : List Int) (hs : a.eval s = v) (A : Option Addr) (m c : Nat) (ys : List Int) (hx : a.eval x = .slice A m c) (hm : ys.length = m) (hl : xs.length + m ≤ 1099511627776)
    (hown : OwnC w wr v xs bs) (hsrc : Src wr A 1 m (ys.map iv))
    (h : ∀ v' w', OwnC w w' v' (xs ++ ys) bs → wpList Tryd.prog ops Q rest (a.put o.dst v') w') : wpList Tryd.prog ops Q (o :: rest) a wr := by
  subst hm
  exact wpList_appS hgd s x 23 ho 3 (.int .i64 0) 1 8 Tryd.underlying23 infoI rfl (by decide) v xs.length (xs.map iv) hs hown.own.1 A _ c (ys.map iv) hx hsrc one_iv (by unfold maxLen; omega) (by omega)
    fun v' w' hp => h v' w' (hown.app hp)
theorem step_C {w wr : World} {bs : List (Nat × Obj)} {ops : Array Oper} {o : Oper} {a : Act} {K : Act → World → Prop} {Q : Exit → Act → World → Prop} {E : Prop} (hgd : o.guard = none) (s x : Operand)
    (ho : o.op = .call { callee := .builtin .append, args := #[s, x], argTypes := #[23, 23] })
    (v : Value) (xs : List Int) (hs : a.eval s = v) (A : Option Addr) (m c : Nat) (ys : List Int) (hx : a.eval x = .slice A m c) (hm : ys.length = m) (hl : xs.length + m ≤ 1099511627776)
    (hown : OwnC w wr v xs bs) (hsrc : Src wr A 1 m (ys.map iv))
    (h : ∀ v' w', OwnC w w' v' (xs ++ ys) bs → K (a.put o.dst v') w') :
    if Region.wanted o (yielded ops a.tmps) = true then Oper.wp Tryd.prog o a wr K Q else E := by
  subst hm
  exact step_appS hgd s x 23 ho 3 (.int .i64 0) 1 8 Tryd.underlying23 infoI rfl (by decide) v xs.length (xs.map iv) hs hown.own.1 A _ c (ys.map iv) hx hsrc one_iv (by unfold maxLen; omega) (by omega)
    fun v' w' hp => h v' w' (hown.app hp)
end Go.Proofs.YtlahecdpcpejpaaDoor
