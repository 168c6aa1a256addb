/-
  Lists of numbers of the call's own: rows that may grow; appends in plain regions and in drawn ones; rows whose cells have been turned.
-/
import Derived.Test.YtkofhilgehhopaaApp
import Derived.Test.YtkofhilgehhopaaIntsB
import Derived.Sort.OwnSortedInts
namespace Go.Proofs.Ytkofhilgehhopaa
open Go.ChangeShapes Go.WideShapes Go.ChangeAt Go.RowKit
open Go.Sort (Holds grow putRow)
set_option linter.unusedVariables false
/-- A list of numbers of the call's own (the call began at w). -/
def OwnI (w wr : World) (out : Value) (xs : List Int) : Prop := Row wr 3 1 out xs.length (xs.map iv) ∧ Below w.heap.size w wr ∧ ∀ g, out.ownBlock = some g → w.heap.size ≤ g
theorem OwnI.start (w : World) : OwnI w w (.slice none 0 0) [] := ⟨World.ownsRow_nil _ _ _ _, Below.refl _ _, fun k hk => by simp [Value.ownBlock] at hk⟩
theorem OwnI.new {w wr : World} {g : Nat} (h : wr.heap[g]? = some (.cells #[] 3 (0, 0))) (hb : Below w.heap.size w wr) (hg : w.heap.size ≤ g) : OwnI w wr (.slice (some ⟨g, 0, none⟩) 0 0) [] :=
  ⟨⟨by simp, .inr ⟨g, 0, #[], rfl, Nat.zero_le _, h, Nat.le_refl _, by simp, by simp, by simp⟩⟩, hb, fun k hk => by simp [Value.ownBlock] at hk; omega⟩
theorem OwnI.below {w wr wx : World} {out : Value} {xs : List Int} (h : OwnI w wr out xs) (hb : Below wr.heap.size wr wx) : OwnI w wx out xs :=
  ⟨h.1.chg (S := fun _ => False) (Chg.of_below hb) (fun _ _ h => h), h.2.1.trans (hb.mono h.2.1.size), h.2.2⟩
theorem OwnI.from_ {w wr wx : World} {out : Value} {xs : List Int} (h : OwnI wr wx out xs) (hb : Below w.heap.size w wr) : OwnI w wx out xs :=
  ⟨h.1, hb.trans (h.2.1.mono hb.size), fun g hg => Nat.le_trans hb.size (h.2.2 g hg)⟩
theorem OwnI.ints {w wr : World} {out : Value} {xs : List Int} (h : OwnI w wr out xs) : Ints wr out xs := h.1.ints
theorem OwnI.app {w wr w' : World} {v v' : Value} {xs ys : List Int} (h : OwnI w wr v xs) (hp : AppPost wr 3 1 v (xs.length + ys.length) (xs.map iv ++ ys.map iv) v' w') : OwnI w w' v' (xs ++ ys) := by
  obtain ⟨p1, p2, p3⟩ := hp
  refine ⟨by rw [List.length_append, List.map_append]; exact p1, h.2.1.trans (p2.below h.2.1.size (fun i hi => h.2.2 i hi)), fun g hg => ?_⟩
  rcases p3 with e | e
  · rw [e] at hg; exact h.2.2 g hg
  · rw [e] at hg; simp at hg; have := h.2.1.size; omega
theorem one_iv {ys : List Int} : ∀ u ∈ ys.map iv, u.oneCell' = true := by
  intro u hu
  simp at hu
  obtain ⟨x, -, rfl⟩ := hu
  rfl
theorem step_I {w wr : World} {ops : Array Oper} {o : Oper} {a : Act} {K : Act → World → Prop} {Q : Exit → Act → World → Prop} {E : Prop} (hgd : o.guard = none) (s x : Operand)
    (ho : o.op = .call { callee := .builtin .append, args := #[s, x], argTypes := #[32, 32] })
    (v : Value) (xs : List Int) (hs : a.eval s = v) (A : Option Addr) (m c : Nat) (ys : List Int) (hx : a.eval x = .slice A m c) (hm : ys.length = m) (hl : xs.length + m ≤ 1099511627776)
    (hown : OwnI w wr v xs) (hsrc : Src wr A 1 m (ys.map iv))
    (h : ∀ v' w', OwnI w w' v' (xs ++ ys) → Chg (fun k => v.ownBlock = some k) wr w' → K (a.put o.dst v') w') :
    if Region.wanted o (yielded ops a.tmps) = true then Oper.wp Try.prog o a wr K Q else E := by
  subst hm
  exact step_appS hgd s x 32 ho 3 (.int .i64 0) 1 8 Try.underlying32 infoI rfl (by decide) v xs.length (xs.map iv) hs hown.1 A _ c (ys.map iv) hx hsrc one_iv (by unfold maxLen; omega) (by omega)
    fun v' w' hp => h v' w' (hown.app hp) hp.2.1
theorem wpList_I {w wr : World} {ops : Array Oper} {rest : List Oper} {o : Oper} {a : Act} {Q : Exit → Act → World → Prop} (hgd : o.guard = none) (s x : Operand)
    (ho : o.op = .call { callee := .builtin .append, args := #[s, x], argTypes := #[32, 32] })
    (v : Value) (xs : List Int) (hs : a.eval s = v) (A : Option Addr) (m c : Nat) (ys : List Int) (hx : a.eval x = .slice A m c) (hm : ys.length = m) (hl : xs.length + m ≤ 1099511627776)
    (hown : OwnI w wr v xs) (hsrc : Src wr A 1 m (ys.map iv))
    (h : ∀ v' w', OwnI w w' v' (xs ++ ys) → wpList Try.prog ops Q rest (a.put o.dst v') w') : wpList Try.prog ops Q (o :: rest) a wr := by
  subst hm
  exact wpList_appS hgd s x 32 ho 3 (.int .i64 0) 1 8 Try.underlying32 infoI rfl (by decide) v xs.length (xs.map iv) hs hown.1 A _ c (ys.map iv) hx hsrc one_iv (by unfold maxLen; omega) (by omega)
    fun v' w' hp => h v' w' (hown.app hp)
theorem Row.cellI {w : World} {e : TypeId} {A : Option Addr} {n cap : Nat} {xs : List Int} (h : Row w e 1 (.slice A n cap) xs.length (xs.map iv)) (hn : n = xs.length) {k : Nat} (hk : k < n) : ∃ g, A = some ⟨g, 0, none⟩ ∧ w.cell? ⟨g, k, none⟩ = some (.int .i64 (xs.getD k 0)) ∧ w.frozen? ⟨g, k, none⟩ = false := by
  subst hn
  rcases h.form with ⟨-, h0, -⟩ | ⟨g, cap', h', -, -, -, hc⟩
  · omega
  · injection h' with e1 e2 e3
    obtain ⟨c1, c2⟩ := hc k (by simpa using hk)
    exact ⟨g, e1, by rw [c1]; simp [List.getD, hk, iv], c2⟩
theorem OwnI.form {w wr : World} {out : Value} {xs : List Int} (h : OwnI w wr out xs) : ∃ A cap, out = .slice A xs.length cap ∧ xs.length ≤ cap ∧ cap ≤ maxLen := by
  rcases h.1.form with ⟨rfl, h0, -⟩ | ⟨g, cap, rfl, h1, h2, -, -⟩
  · exact ⟨none, 0, by rw [h0], by omega, by simp⟩
  · exact ⟨_, cap, rfl, h1, h2⟩
theorem heap_new1 (w : World) (a : Obj) : (w.alloc a).heap[w.heap.size]? = some a := heap_alloc_new w a
theorem heap_new2 (w : World) (a b : Obj) : ((w.alloc a).alloc b).heap[w.heap.size + 1]? = some b := by
  have := heap_alloc_new (w.alloc a) b
  simpa using this
theorem heap_new3 (w : World) (a b : Obj) : ((w.alloc a).alloc b).heap[w.heap.size]? = some a := (Below.heap_alloc (w.alloc a) b w.heap.size (by simp)).trans (heap_alloc_new w a)
theorem below_new1 (w : World) (a : Obj) : Below w.heap.size w (w.alloc a) := (Below.refl _ _).alloc (Nat.le_refl _) _
theorem below_new2 (w : World) (a b : Obj) : Below w.heap.size w ((w.alloc a).alloc b) := ((Below.refl _ _).alloc (Nat.le_refl _) _).alloc (by simp) _
theorem below_d1 (w : World) (k : Nat) (a : Obj) : Below w.heap.size w ((w.drewN k).alloc a) := (below_drewN (Below.refl _ _) k).alloc (Nat.le_refl _) _
theorem below_d2 (w : World) (k : Nat) (a b : Obj) : Below w.heap.size w (((w.drewN k).alloc a).alloc b) := ((below_drewN (Below.refl _ _) k).alloc (Nat.le_refl _) _).alloc (by simp) _
theorem take_snocI {l : List Int} {k : Nat} (h : k < l.length) : l.take (k + 1) = l.take k ++ [l.getD k 0] := by
  rw [List.take_add_one, List.getElem?_eq_getElem h]
  simp [List.getD, h]
theorem OwnI.form2 {w wr : World} {out : Value} {xs : List Int} (h : OwnI w wr out xs) : (out = .slice none 0 0 ∧ xs = []) ∨ ∃ g cap cur, out = .slice (some ⟨g, 0, none⟩) xs.length cap ∧ w.heap.size ≤ g ∧ wr.heap[g]? = some (.cells cur 3 (0, 0)) ∧ xs.length ≤ cap ∧ cap ≤ maxLen ∧ cur.size = cap * 1 ∧ cur.toList.take xs.length = xs.map (Value.int .i64) := by
  obtain ⟨⟨hl, h⟩, hb, hg⟩ := h
  rcases h with ⟨rfl, h0⟩ | ⟨g, cap, cur, rfl, h0, h1, h2, h3, h4, h5⟩
  · exact .inl ⟨rfl, List.eq_nil_of_length_eq_zero (by simpa using h0)⟩
  · exact .inr ⟨g, cap, cur, rfl, hg g rfl, h1, h2, h3, h4, by rw [Nat.mul_one] at h5; exact h5⟩
/-- A row of the call's own whose cells have been turned. -/
theorem OwnI.turned {w wr : World} {g cap n : Nat} {os : Array Obj} {cur : Array Value} {xs ts : List Int} (hb : Below w.heap.size w wr) (hg : w.heap.size ≤ g) (h : wr.heap[g]? = some (.cells cur 3 (0, 0))) (hl : ts.length = xs.length) (h1 : xs.length ≤ cap) (h2 : cap ≤ maxLen) (h3 : cur.size = cap * 1) :
    OwnI w (grow (putRow (Value.int .i64) (Go.Sort.ahead wr n) g 0 ts.toArray) os) (.slice (some ⟨g, 0, none⟩) xs.length cap) ts := by
  refine ⟨?_, ?_, fun k hk => by simp [Value.ownBlock] at hk; omega⟩
  · have := ownsRow_sortedI (w := wr) (base := 0) (g := g) (cap := cap) (n := n) (e := 3) (os := os) (cur := cur) (ss := xs) (ts := ts) hl (Nat.zero_le _) h h1 h2 h3
    rw [hl]
    exact this
  · have := Chg.of_grown (S := fun k => k = g) (grownBy_sortedI (w := wr) (g := g) (n := n) (os := os) ts.toArray) (fun k hk => by injection hk with hk; exact hk.symm)
    exact hb.trans (this.below hb.size (fun i hi => by omega))
end Go.Proofs.Ytkofhilgehhopaa
