/-
  Gates: the table of what was had, in memory.
-/
import Derived.Test.YtkofhilgehhopaaGtE
import Derived.Test.YtkofhilgehhopaaGuR
namespace Go.Proofs.Ytkofhilgehhopaa
open Go Go.ChangeShapes Go.WideShapes Go.ChangeAt Go.RowKit Go.Maps
set_option linter.unusedVariables false
set_option linter.unusedSimpArgs false
def GKey.v (x : GKey) : Value := .agg (keyC x.k x.a x.b x.c ⟨x.s.toArray⟩)
def GKey.l (x : GKey) : Lit := .string (keyBytes [.int .i64 x.k, .int .i64 x.a, .int .i64 x.b, .int .i64 x.c, .string x.s])
def wf64' (n : Int) : Prop := -9223372036854775808 ≤ n ∧ n ≤ 9223372036854775807
structure GKey.ok (x : GKey) : Prop where
  k : wf64' x.k
  a : wf64' x.a
  b : wf64' x.b
  c : wf64' x.c
  s : x.s.length ≤ 1000000
theorem lit_wf {n : Int} (h : wf64' n) : (Lit.int .i64 n).wf = true := by
  obtain ⟨h0, h1⟩ := h
  have e1 : IntKind.i64.min = -9223372036854775808 := by decide
  have e2 : IntKind.i64.max = 9223372036854775807 := by decide
  simp [Lit.wf, e1, e2]; omega
set_option maxRecDepth 100000 in
theorem GKey.of (x : GKey) (h : x.ok) : keyOf Try.prog 62 x.v = some x.l := by
  have hs : (⟨x.s.toArray⟩ : ByteArray).size ≤ maxLen := by
    have := h.s
    show x.s.toArray.size ≤ _
    unfold maxLen
    simp
    omega
  obtain ⟨m, hm⟩ : ∃ m, Try.prog.types.size = m + 1 := ⟨Try.prog.types.size - 1, by kernel_rfl⟩
  have hf : (Try.prog.keyType 62 && x.v.formed Try.prog 62) = true := by
    rw [Bool.and_eq_true]
    exact ⟨by kernel_rfl, by kernel_rfl⟩
  have hk := lit_wf h.k
  have ha := lit_wf h.a
  have hb := lit_wf h.b
  have hc := lit_wf h.c
  unfold keyOf
  simp only [Try.underlying62]
  rw [if_pos hf, hm]
  unfold Program.keyLits
  simp only [Try.underlying62]
  have c3 : Try.prog.cellsOf 3 = 1 := by kernel_rfl
  have c9 : Try.prog.cellsOf 9 = 1 := by kernel_rfl
  have ki : ∀ y, (Lit.int .i64 y).wf = true → Try.prog.keyLits (m + 1) 3 [.int .i64 y] = some [.int .i64 y] := fun y hy => by
    unfold Program.keyLits
    simp [Try.underlying3, hy]
  have ks : Try.prog.keyLits (m + 1) 9 [.string ⟨x.s.toArray⟩] = some [.string x.s] := by
    unfold Program.keyLits
    simp only [Try.underlying9]
    rw [if_pos hs]
  have hcel : x.v.cells.toList = [.int .i64 x.k, .int .i64 x.a, .int .i64 x.b, .int .i64 x.c, .string ⟨x.s.toArray⟩] := rfl
  rw [if_pos ⟨by rw [hcel]; kernel_rfl, by kernel_rfl⟩]
  simp only [List.mapM_cons, List.mapM_nil, c3, c9, hcel, List.drop, List.take, ki _ hk, ki _ ha, ki _ hb, ki _ hc, ks]
  rfl
theorem GKey.isL (x : GKey) (h : x.ok) : WideAt.IsKeyLit x.l := kkey.key (x.of h)
theorem GKey.inj {x y : GKey} (hx : x.ok) (hy : y.ok) (h : x.l = y.l) : x = y := by
  have := kkey.inj (x.of hx) (by rw [h]; exact y.of hy)
  unfold GKey.v keyC at this
  simp only [Value.agg.injEq, Array.mk.injEq, List.cons.injEq, Value.int.injEq, Value.string.injEq, and_true, true_and] at this
  obtain ⟨h1, h2, h3, h4, h5⟩ := this
  have h5 : x.s.toArray = y.s.toArray := by injection h5
  have h5 : x.s = y.s := by simpa using congrArg Array.toList h5
  cases x; cases y
  simp_all
/-- What a map's datum says of the table. -/
structure Rep (D : DataW Unit) (T : List (GKey × Int)) : Prop where
  is : IsMap D
  has : ∀ x : GKey, x.ok → Maps.has D x.l = (T.lookup x).isSome
  at_ : ∀ (x : GKey) (o : Int), x.ok → T.lookup x = some o → ∀ z, D.atKey x.l z = .lit (.int .i64 o)
  sz : Maps.size D ≤ T.length
theorem Rep.nil : Rep (.map []) [] := ⟨isMap_empty, fun x _ => rfl, fun x o _ h => by simp at h, Nat.le_refl _⟩
theorem Rep.put {D : DataW Unit} {T : List (GKey × Int)} (h : Rep D T) (ht : Tidy D) {x : GKey} (hx : x.ok) (o : Int) : Rep (D.put x.l (.lit (.int .i64 o))) ((x, o) :: T) := by
  refine ⟨h.is.put _ _, fun y hy => ?_, fun y o' hy hl z => ?_, ?_⟩
  · rw [List.lookup_cons]
    by_cases e : y = x
    · subst e
      rw [has_put_same h.is (y.isL hy)]; simp
    · have : (y == x) = false := by rw [beq_eq_false_iff_ne]; exact e
      rw [this, has_put_other (fun e' => e (GKey.inj hy hx e')), h.has y hy]
  · rw [List.lookup_cons] at hl
    by_cases e : y = x
    · subst e
      simp at hl
      subst hl
      exact atKey_put_same h.is (y.isL hy) _ _
    · have : (y == x) = false := by rw [beq_eq_false_iff_ne]; exact e
      rw [this] at hl
      rw [atKey_put_other (fun e' => e (GKey.inj hy hx e'))]
      exact h.at_ y o' hy hl z
  · rw [size_put ht]
    have := h.sz
    rw [List.length_cons]
    split <;> omega
section
variable {fp : Nat → Prop} {B : Nat} {w : World} {g f m : Nat} {n : Int} {xss : List (List Int)} {D : DataW Unit}
theorem GAt.tidy (h : GAt fp B w g f m n xss D) : Tidy D := h.mp.tidy kkey
/-- What was had. -/
theorem GAt.hit (h : GAt fp B w g f m n xss D) {T : List (GKey × Int)} (hr : Rep D T) {x : GKey} (hx : x.ok) {o : Int} (ho : T.lookup x = some o) : (Instr.lookup 53 (.map (some m)) x.v true).run Try.prog w = .ok (.tuple #[.int .i64 o, .bool true]) w := by
  obtain ⟨v, ps, h1, h2⟩ := h.mp.look_ok kkey Try.underlying53 (z := .int .i64 0) (by kernel_rfl) (zd := .lit (.int .i64 0)) (zp := []) (plainElem_int Try.underlying3 (by decide)) (x.of hx)
  rw [hr.has x hx, ho] at h1
  rw [hr.at_ x o hx ho] at h2
  obtain ⟨c, rfl, hc, -⟩ := plainElem_int_inv Try.underlying3 h2
  simp at hc
  rw [hc.1]
  exact h1
end
/-- Gates in memory. -/
def GMem (fp : Nat → Prop) (B : Nat) (w : World) (g f m : Nat) (S : GS) : Prop := ∃ D, Rep D S.tab ∧ GAt fp B w g f m (S.n : Int) S.cl D
/-- What a call leaves of gates in memory. -/
def GLeft (fp : Nat → Prop) (B : Nat) (w : World) (g f m : Nat) (S : GS) (w' : World) : Prop := ∃ D, Rep D S.tab ∧ GSt fp B w g f m (S.n : Int) S.cl D w'
end Go.Proofs.Ytkofhilgehhopaa
