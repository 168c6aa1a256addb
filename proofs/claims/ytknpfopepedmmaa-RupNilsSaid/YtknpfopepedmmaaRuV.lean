/-
  Package rup: a checker while a clause is added.
-/
import Derived.Test.YtknpfopepedmmaaRuT
import Derived.Test.YtknpfopepedmmaaRuC
namespace Go.Proofs.Ytknpfopepedmmaa
open Go Go.ChangeShapes Go.WideShapes Go.ChangeAt Go.RowKit Go.Maps
set_option linter.unusedVariables false
set_option linter.unusedSimpArgs false
theorem ofL_more (S : RS) (c : List Int) (x : Int) : (S.more c).ofL x = S.ofL x ++ (if x ∈ c then [S.cl.length] else []) := by
  unfold RS.ofL
  rw [more_len, List.range_succ, List.filter_append]
  congr 1
  · apply List.filter_congr
    intro i hi
    rw [more_c (List.mem_range.1 hi)]
  · have e : (S.more c).c S.cl.length = c := by
      unfold RS.c RS.more
      simp only
      rw [getD_snocP, if_neg (by omega), if_pos rfl]
    by_cases h : x ∈ c
    · rw [if_pos h]; simp [e, h]
    · rw [if_neg h]; simp [e, h]
theorem onF_more {S : RS} (hl : S.on.length = S.cl.length) (c : List Int) : onF (S.more c) = upd (onF S) (S.cl.length : Nat) (some true) := by
  funext x
  unfold upd onF
  have e : ∀ i, (S.more c).onA i = if i < S.on.length then S.onA i else if i = S.on.length then true else false := fun i => by
    unfold RS.onA RS.more
    simp only
    rw [getD_snocP]
  by_cases hx : x = (S.cl.length : Nat)
  · rw [if_pos hx, if_pos ⟨by omega, by rw [e, if_neg (by omega), if_pos (by omega)]⟩]
  · rw [if_neg hx]
    by_cases h0 : 0 ≤ x
    · have e2 : (S.more c).onA x.toNat = S.onA x.toNat := by
        rw [e]
        by_cases h1 : x.toNat < S.on.length
        · rw [if_pos h1]
        · rw [if_neg h1, if_neg (by omega)]
          unfold RS.onA
          rw [List.getD_eq_getElem?_getD, List.getElem?_eq_none (by omega)]; rfl
      rw [e2]
    · rw [if_neg (fun h => h0 h.1), if_neg (fun h => h0 h.1)]
/-- A checker whose two maps of clauses are behind. -/
structure KQ (w : World) (r : Nat) (S : RS) (vl vt : Value) (bt bo bm nt no nm : Nat) (us : List Value) (ho : (Int → Option (Option (Nat × Nat × Nat)))) (fn : Int → Option Bool) (fo : Int → List Nat) : Prop where
  b : Blk w r 72 #[vl, .map (some bt), .map (some bo), .map (some bm), vt, .int .i64 (S.base : Nat), .int .i64 S.bk]
  l : Row w 28 1 vl S.cl.length us
  c : Cls w (KS r bt bo bm vl vt ho) us S.cl
  t : MapF eBool w bt nt fn
  o : MapF eSl w bo no ho
  of : ∀ x, Row w 3 1 (hv ho x) (fo x).length ((fo x).map fun i => iv (i : Nat))
  m : MapF eMark w bm nm (markF S)
  tr : Row w 3 1 vt S.tr.length (S.T.map iv)
  d : r ≠ bt ∧ r ≠ bo ∧ r ≠ bm ∧ bt ≠ bo ∧ bt ≠ bm ∧ bo ≠ bm
  sl : ∀ g, vl.ownBlock = some g → g ≠ r ∧ g ≠ bt ∧ g ≠ bo ∧ g ≠ bm ∧ vt.ownBlock ≠ some g
  st : ∀ g, vt.ownBlock = some g → g ≠ r ∧ g ≠ bt ∧ g ≠ bo ∧ g ≠ bm
  sh : ∀ g, HB ho g → g ≠ r ∧ g ≠ bt ∧ g ≠ bo ∧ g ≠ bm ∧ vl.ownBlock ≠ some g ∧ vt.ownBlock ≠ some g
  sx : ∀ x y g, x ≠ y → (hv ho x).ownBlock = some g → (hv ho y).ownBlock ≠ some g
section
variable {w : World} {r : Nat} {S : RS} {vl vt : Value} {bt bo bm nt no nm : Nat} {us : List Value} {ho : (Int → Option (Option (Nat × Nat × Nat)))} {fn : Int → Option Bool} {fo : Int → List Nat}
theorem KP.toQ (h : KP w r S vl vt bt bo bm nt no nm us ho) : KQ w r S vl vt bt bo bm nt no nm us ho (onF S) S.ofL := ⟨h.b, h.l, h.c, h.t, h.o, h.of, h.m, h.tr, h.d, h.sl, h.st, h.sh, h.sx⟩
theorem KQ.toP (h : KQ w r S vl vt bt bo bm nt no nm us ho fn fo) (h1 : fn = onF S) (h2 : ∀ x, fo x = S.ofL x) : KP w r S vl vt bt bo bm nt no nm us ho := ⟨h.b, h.l, h.c, by rw [← h1]; exact h.t, h.o, fun x => by rw [← h2]; exact h.of x, h.m, h.tr, h.d, h.sl, h.st, h.sh, h.sx⟩
theorem KQ.below (h : KQ w r S vl vt bt bo bm nt no nm us ho fn fo) {w' : World} (hb : Below w.heap.size w w') : KQ w' r S vl vt bt bo bm nt no nm us ho fn fo := by
  have hc : Chg (fun _ => False) w w' := Chg.of_below hb
  exact ⟨h.b.chg hc (fun e => e), h.l.chg hc (fun _ _ e => e), h.c.below hb, h.t.chg hc (fun e => e), h.o.chg hc (fun e => e), fun x => (h.of x).chg hc (fun _ _ e => e), h.m.chg hc (fun e => e), h.tr.chg hc (fun _ _ e => e), h.d, h.sl, h.st, h.sh, h.sx⟩
/-- A clause is laid behind the others. -/
theorem KQ.push (h : KQ w r S vl vt bt bo bm nt no nm us ho fn fo) {n : List Int} {u v' : Value} {w2 : World} (hu : Ints w u n) (hul : ∀ g, u.ownBlock = some g → ¬ KS r bt bo bm vl vt ho g ∧ g < w.heap.size)
    (hp : AppPost (w.alloc (.cells #[u] 28)) 28 1 vl (S.cl.length + 1) (us ++ [u]) v' w2) :
    KQ (w2.setCell ⟨r, 0, none⟩ v') r (S.more n) v' vt bt bo bm nt no nm (us ++ [u]) ho fn fo ∧ Chg (fun k => k = r ∨ vl.ownBlock = some k) w (w2.setCell ⟨r, 0, none⟩ v') ∧ (v'.ownBlock = vl.ownBlock ∨ ∃ g, v'.ownBlock = some g ∧ w.heap.size ≤ g) ∧ Blk w2 r 72 #[vl, .map (some bt), .map (some bo), .map (some bm), vt, .int .i64 (S.base : Nat), .int .i64 S.bk] := by
  obtain ⟨p1, p2, p3⟩ := hp
  obtain ⟨d1, d2, d3, d4, d5, d6⟩ := h.d
  have own' : v'.ownBlock = vl.ownBlock ∨ ∃ g, v'.ownBlock = some g ∧ w.heap.size ≤ g := by
    rcases p3 with e | e
    · exact .inl e
    · exact .inr ⟨_, e, by simp⟩
  have c2 : Chg (fun k => vl.ownBlock = some k) w w2 := ((Chg.refl (fun k => vl.ownBlock = some k) w).alloc _).trans p2 (fun i hi => .inl hi)
  have hb2 : Blk w2 r 72 _ := h.b.chg c2 (fun e => (h.sl r e).1 rfl)
  have c3 : Chg (fun k => k = r ∨ vl.ownBlock = some k) w (w2.setCell ⟨r, 0, none⟩ v') := (c2.mono (S' := fun k => k = r ∨ vl.ownBlock = some k) (fun i hi => .inr hi)).setCell (p := ⟨r, 0, none⟩) (.inl (.inl rfl)) _
  have lt' : ∀ g, g < w.heap.size → v'.ownBlock = some g → vl.ownBlock = some g := fun g hg e => by
    rcases own' with e' | ⟨g', e', hg'⟩
    · rw [← e']; exact e
    · rw [e'] at e; injection e with e; omega
  have bl := h.b.lt
  have tl := h.t.lt
  have ol := h.o.lt
  have ml := h.m.lt
  have hbl : ∀ g, HB ho g → g < w.heap.size := fun g hg => by
    obtain ⟨x, hx⟩ := hg
    exact (h.of x).lt g hx
  have hcls : Cls w (fun g => KS r bt bo bm vl vt ho g ∨ w.heap.size ≤ g) (us ++ [u]) (S.cl ++ [n]) :=
    (h.c.mono (S' := fun g => KS r bt bo bm vl vt ho g ∨ w.heap.size ≤ g) (fun g hg hS => hS.resolve_right (by omega))).snoc hu (fun g hg => ⟨fun hS => (hul g hg).1 (hS.resolve_right (by have := (hul g hg).2; omega)), (hul g hg).2⟩)
  refine ⟨⟨hb2.set_ 0 v', ?_, ?_, h.t.chg c3 (fun hS => ?_), h.o.chg c3 (fun hS => ?_), fun x => (h.of x).chg c3 (fun g hg hS => ?_), h.m.chg c3 (fun hS => ?_), h.tr.chg c3 (fun g hg hS => ?_), h.d, fun g hg => ?_, h.st, fun g hg => ?_, h.sx⟩, c3, own', hb2⟩
  · rw [more_len]
    exact Row.setCell p1 (fun e => (h.sl r (lt' r bl e)).1 rfl) v'
  · refine (hcls.chg c3 (fun g hg hS => ?_)).mono (fun g hg hS => ?_)
    · rcases hS with e | e
      · exact .inl (.inl e)
      · exact .inl (.inr (.inr (.inr (.inr (.inl e)))))
    · rcases hS with e | e | e | e | e | e | e
      · exact .inl (.inl e)
      · exact .inl (.inr (.inl e))
      · exact .inl (.inr (.inr (.inl e)))
      · exact .inl (.inr (.inr (.inr (.inl e))))
      · rcases own' with e' | ⟨g', e', hg'⟩
        · rw [e'] at e; exact .inl (.inr (.inr (.inr (.inr (.inl e)))))
        · rw [e'] at e; injection e with e; exact .inr (by omega)
      · exact .inl (.inr (.inr (.inr (.inr (.inr (.inl e))))))
      · exact .inl (.inr (.inr (.inr (.inr (.inr (.inr e))))))
  · rcases hS with e | e
    · exact d1 e.symm
    · exact (h.sl _ e).2.1 rfl
  · rcases hS with e | e
    · exact d2 e.symm
    · exact (h.sl _ e).2.2.1 rfl
  · obtain ⟨a1, a2, a3, a4, a5, a6⟩ := h.sh g ⟨x, hg⟩
    rcases hS with e | e
    · exact a1 e
    · exact a5 e
  · rcases hS with e | e
    · exact d3 e.symm
    · exact (h.sl _ e).2.2.2.1 rfl
  · rcases hS with e | e
    · exact (h.st g hg).1 e
    · exact (h.sl _ e).2.2.2.2 hg
  · by_cases hlt : g < w.heap.size
    · exact h.sl g (lt' g hlt hg)
    · refine ⟨by omega, by omega, by omega, by omega, fun e => ?_⟩
      have := h.tr.lt g e
      omega
  · obtain ⟨a1, a2, a3, a4, a5, a6⟩ := h.sh g hg
    exact ⟨a1, a2, a3, a4, fun e => a5 (lt' g (hbl g hg) e), a6⟩
/-- A clause is said to be there. -/
theorem KQ.there (h : KQ w r S vl vt bt bo bm nt no nm us ho fn fo) {w' : World} {nt' : Nat} {fn' : Int → Option Bool} (hm : MapF eBool w' bt nt' fn') (hc : Chg (fun k => k = bt) w w') : KQ w' r S vl vt bt bo bm nt' no nm us ho fn' fo := by
  obtain ⟨d1, d2, d3, d4, d5, d6⟩ := h.d
  exact ⟨h.b.chg hc d1, h.l.chg hc (fun g hg e => (h.sl g hg).2.1 e), h.c.chg hc (fun g _ e => .inr (.inl e)), hm, h.o.chg hc (fun e => d4 e.symm), fun x => (h.of x).chg hc (fun g hg e => (h.sh g ⟨x, hg⟩).2.1 e), h.m.chg hc (fun e => d5 e.symm), h.tr.chg hc (fun g hg e => (h.st g hg).2.1 e), h.d, h.sl, h.st, h.sh, h.sx⟩
end
end Go.Proofs.Ytknpfopepedmmaa
