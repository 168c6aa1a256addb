/-
  Package rup: a checker while a clause is added.
-/
import Derived.Test.YtknpfopepedmmaaRuK
import Derived.Test.YtknpfopepedmmaaRuC
import Derived.Deep.RegionLaw
namespace Go.Proofs.Ytknpfopepedmmaa
open Go Go.ChangeShapes Go.WideShapes Go.ChangeAt Go.RowKit Go.Maps
set_option linter.unusedVariables false
set_option linter.unusedSimpArgs false
theorem ofL_more (S : RS) (c : List Int) (x : Int) : (S.more c).ofL x = S.ofL x ++ (if x ∈ c then [S.cl.length] else []) := by
  unfold RS.ofL
  rw [more_len, List.range_succ, List.filter_append]
  congr 1
  · apply List.filter_congr
    intro i hi
    rw [more_c (List.mem_range.1 hi)]
  · have e : (S.more c).c S.cl.length = c := by
      unfold RS.c RS.more
      simp only
      rw [getD_snocP, if_neg (by omega), if_pos rfl]
    by_cases h : x ∈ c
    · rw [if_pos h]; simp [e, h]
    · rw [if_neg h]; simp [e, h]
theorem onF_more {S : RS} (hl : S.on.length = S.cl.length) (c : List Int) : onF (S.more c) = upd (onF S) (S.cl.length : Nat) (some true) := by
  funext x
  unfold upd onF
  have e : ∀ i, (S.more c).onA i = if i < S.on.length then S.onA i else if i = S.on.length then true else false := fun i => by
    unfold RS.onA RS.more
    simp only
    rw [getD_snocP]
  by_cases hx : x = (S.cl.length : Nat)
  · rw [if_pos hx, if_pos ⟨by omega, by rw [e, if_neg (by omega), if_pos (by omega)]⟩]
  · rw [if_neg hx]
    by_cases h0 : 0 ≤ x
    · have e2 : (S.more c).onA x.toNat = S.onA x.toNat := by
        rw [e]
        by_cases h1 : x.toNat < S.on.length
        · rw [if_pos h1]
        · rw [if_neg h1, if_neg (by omega)]
          unfold RS.onA
          rw [List.getD_eq_getElem?_getD, List.getElem?_eq_none (by omega)]; rfl
      rw [e2]
    · rw [if_neg (fun h => h0 h.1), if_neg (fun h => h0 h.1)]
/-- A checker whose two maps of clauses are behind. -/
structure KQ (w : World) (r : Nat) (S : RS) (vl vt : Value) (bt bo bm nt no nm : Nat) (us : List Value) (ho : (Int → Option (Option (Nat × Nat × Nat)))) (fn : Int → Option Bool) (fo : Int → List Nat) : Prop where
  b : Blk w r 72 #[vl, .map (some bt), .map (some bo), .map (some bm), vt, .int .i64 (S.base : Nat), .int .i64 S.bk]
  l : Row w 28 1 vl S.cl.length us
  c : Cls w (KS r bt bo bm vl vt ho) us S.cl
  t : MapF eBool w bt nt fn
  o : MapF eSl w bo no ho
  of : ∀ x, Row w 3 1 (hv ho x) (fo x).length ((fo x).map fun i => iv (i : Nat))
  m : MapF eMark w bm nm (markF S)
  tr : Row w 3 1 vt S.tr.length (S.T.map iv)
  d : r ≠ bt ∧ r ≠ bo ∧ r ≠ bm ∧ bt ≠ bo ∧ bt ≠ bm ∧ bo ≠ bm
  sl : ∀ g, vl.ownBlock = some g → g ≠ r ∧ g ≠ bt ∧ g ≠ bo ∧ g ≠ bm ∧ vt.ownBlock ≠ some g
  st : ∀ g, vt.ownBlock = some g → g ≠ r ∧ g ≠ bt ∧ g ≠ bo ∧ g ≠ bm
  sh : ∀ g, HB ho g → g ≠ r ∧ g ≠ bt ∧ g ≠ bo ∧ g ≠ bm ∧ vl.ownBlock ≠ some g ∧ vt.ownBlock ≠ some g
  sx : ∀ x y g, x ≠ y → (hv ho x).ownBlock = some g → (hv ho y).ownBlock ≠ some g
section
variable {w : World} {r : Nat} {S : RS} {vl vt : Value} {bt bo bm nt no nm : Nat} {us : List Value} {ho : (Int → Option (Option (Nat × Nat × Nat)))} {fn : Int → Option Bool} {fo : Int → List Nat}
theorem KP.toQ (h : KP w r S vl vt bt bo bm nt no nm us ho) : KQ w r S vl vt bt bo bm nt no nm us ho (onF S) S.ofL := ⟨h.b, h.l, h.c, h.t, h.o, h.of, h.m, h.tr, h.d, h.sl, h.st, h.sh, h.sx⟩
theorem KQ.toP (h : KQ w r S vl vt bt bo bm nt no nm us ho fn fo) (h1 : fn = onF S) (h2 : ∀ x, fo x = S.ofL x) : KP w r S vl vt bt bo bm nt no nm us ho := ⟨h.b, h.l, h.c, by rw [← h1]; exact h.t, h.o, fun x => by rw [← h2]; exact h.of x, h.m, h.tr, h.d, h.sl, h.st, h.sh, h.sx⟩
theorem KQ.below (h : KQ w r S vl vt bt bo bm nt no nm us ho fn fo) {w' : World} (hb : Below w.heap.size w w') : KQ w' r S vl vt bt bo bm nt no nm us ho fn fo := by
  have hc : Chg (fun _ => False) w w' := Chg.of_below hb
  exact ⟨h.b.chg hc (fun e => e), h.l.chg hc (fun _ _ e => e), h.c.below hb, h.t.chg hc (fun e => e), h.o.chg hc (fun e => e), fun x => (h.of x).chg hc (fun _ _ e => e), h.m.chg hc (fun e => e), h.tr.chg hc (fun _ _ e => e), h.d, h.sl, h.st, h.sh, h.sx⟩
/-- A clause is laid behind the others. -/
theorem KQ.push (h : KQ w r S vl vt bt bo bm nt no nm us ho fn fo) {n : List Int} {u v' : Value} {w2 : World} (hu : Ints w u n) (hul : ∀ g, u.ownBlock = some g → ¬ KS r bt bo bm vl vt ho g ∧ g < w.heap.size)
    (hp : AppPost (w.alloc (.cells #[u] 28)) 28 1 vl (S.cl.length + 1) (us ++ [u]) v' w2) :
    KQ (w2.setCell ⟨r, 0, none⟩ v') r (S.more n) v' vt bt bo bm nt no nm (us ++ [u]) ho fn fo ∧ Chg (fun k => k = r ∨ vl.ownBlock = some k) w (w2.setCell ⟨r, 0, none⟩ v') ∧ (v'.ownBlock = vl.ownBlock ∨ ∃ g, v'.ownBlock = some g ∧ w.heap.size ≤ g) ∧ Blk w2 r 72 #[vl, .map (some bt), .map (some bo), .map (some bm), vt, .int .i64 (S.base : Nat), .int .i64 S.bk] := by
  obtain ⟨p1, p2, p3⟩ := hp
  obtain ⟨d1, d2, d3, d4, d5, d6⟩ := h.d
  have own' : v'.ownBlock = vl.ownBlock ∨ ∃ g, v'.ownBlock = some g ∧ w.heap.size ≤ g := by
    rcases p3 with e | e
    · exact .inl e
    · exact .inr ⟨_, e, by simp⟩
  have c2 : Chg (fun k => vl.ownBlock = some k) w w2 := ((Chg.refl (fun k => vl.ownBlock = some k) w).alloc _).trans p2 (fun i hi => .inl hi)
  have hb2 : Blk w2 r 72 _ := h.b.chg c2 (fun e => (h.sl r e).1 rfl)
  have c3 : Chg (fun k => k = r ∨ vl.ownBlock = some k) w (w2.setCell ⟨r, 0, none⟩ v') := (c2.mono (S' := fun k => k = r ∨ vl.ownBlock = some k) (fun i hi => .inr hi)).setCell (p := ⟨r, 0, none⟩) (.inl (.inl rfl)) _
  have lt' : ∀ g, g < w.heap.size → v'.ownBlock = some g → vl.ownBlock = some g := fun g hg e => by
    rcases own' with e' | ⟨g', e', hg'⟩
    · rw [← e']; exact e
    · rw [e'] at e; injection e with e; omega
  have bl := h.b.lt
  have tl := h.t.lt
  have ol := h.o.lt
  have ml := h.m.lt
  have hbl : ∀ g, HB ho g → g < w.heap.size := fun g hg => by
    obtain ⟨x, hx⟩ := hg
    exact (h.of x).lt g hx
  have hcls : Cls w (fun g => KS r bt bo bm vl vt ho g ∨ w.heap.size ≤ g) (us ++ [u]) (S.cl ++ [n]) :=
    (h.c.mono (S' := fun g => KS r bt bo bm vl vt ho g ∨ w.heap.size ≤ g) (fun g hg hS => hS.resolve_right (by omega))).snoc hu (fun g hg => ⟨fun hS => (hul g hg).1 (hS.resolve_right (by have := (hul g hg).2; omega)), (hul g hg).2⟩)
  refine ⟨⟨hb2.set_ 0 v', ?_, ?_, h.t.chg c3 (fun hS => ?_), h.o.chg c3 (fun hS => ?_), fun x => (h.of x).chg c3 (fun g hg hS => ?_), h.m.chg c3 (fun hS => ?_), h.tr.chg c3 (fun g hg hS => ?_), h.d, fun g hg => ?_, h.st, fun g hg => ?_, h.sx⟩, c3, own', hb2⟩
  · rw [more_len]
    exact Row.setCell p1 (fun e => (h.sl r (lt' r bl e)).1 rfl) v'
  · refine (hcls.chg c3 (fun g hg hS => ?_)).mono (fun g hg hS => ?_)
    · rcases hS with e | e
      · exact .inl (.inl e)
      · exact .inl (.inr (.inr (.inr (.inr (.inl e)))))
    · rcases hS with e | e | e | e | e | e | e
      · exact .inl (.inl e)
      · exact .inl (.inr (.inl e))
      · exact .inl (.inr (.inr (.inl e)))
      · exact .inl (.inr (.inr (.inr (.inl e))))
      · rcases own' with e' | ⟨g', e', hg'⟩
        · rw [e'] at e; exact .inl (.inr (.inr (.inr (.inr (.inl e)))))
        · rw [e'] at e; injection e with e; exact .inr (by omega)
      · exact .inl (.inr (.inr (.inr (.inr (.inr (.inl e))))))
      · exact .inl (.inr (.inr (.inr (.inr (.inr (.inr e))))))
  · rcases hS with e | e
    · exact d1 e.symm
    · exact (h.sl _ e).2.1 rfl
  · rcases hS with e | e
    · exact d2 e.symm
    · exact (h.sl _ e).2.2.1 rfl
  · obtain ⟨a1, a2, a3, a4, a5, a6⟩ := h.sh g ⟨x, hg⟩
    rcases hS with e | e
    · exact a1 e
    · exact a5 e
  · rcases hS with e | e
    · exact d3 e.symm
    · exact (h.sl _ e).2.2.2.1 rfl
  · rcases hS with e | e
    · exact (h.st g hg).1 e
    · exact (h.sl _ e).2.2.2.2 hg
  · by_cases hlt : g < w.heap.size
    · exact h.sl g (lt' g hlt hg)
    · refine ⟨by omega, by omega, by omega, by omega, fun e => ?_⟩
      have := h.tr.lt g e
      omega
  · obtain ⟨a1, a2, a3, a4, a5, a6⟩ := h.sh g hg
    exact ⟨a1, a2, a3, a4, fun e => a5 (lt' g (hbl g hg) e), a6⟩
/-- A clause is said to be there. -/
theorem KQ.there (h : KQ w r S vl vt bt bo bm nt no nm us ho fn fo) {w' : World} {nt' : Nat} {fn' : Int → Option Bool} (hm : MapF eBool w' bt nt' fn') (hc : Chg (fun k => k = bt) w w') : KQ w' r S vl vt bt bo bm nt' no nm us ho fn' fo := by
  obtain ⟨d1, d2, d3, d4, d5, d6⟩ := h.d
  exact ⟨h.b.chg hc d1, h.l.chg hc (fun g hg e => (h.sl g hg).2.1 e), h.c.chg hc (fun g _ e => .inr (.inl e)), hm, h.o.chg hc (fun e => d4 e.symm), fun x => (h.of x).chg hc (fun g hg e => (h.sh g ⟨x, hg⟩).2.1 e), h.m.chg hc (fun e => d5 e.symm), h.tr.chg hc (fun g hg e => (h.st g hg).2.1 e), h.d, h.sl, h.st, h.sh, h.sx⟩
end
end Go.Proofs.Ytknpfopepedmmaa
/-
  Package rup: Add, walked.
-/
namespace Go.Proofs.Ytknpfopepedmmaa
open Go Go.ChangeShapes Go.WideShapes Go.ChangeAt Go.RowKit Go.Maps
set_option linter.unusedVariables false
set_option linter.unusedSimpArgs false
def updN (f : Int → List Nat) (x : Int) (v : List Nat) : Int → List Nat := fun y => if y = x then v else f y
section
variable {w : World} {r : Nat} {S : RS} {vl vt : Value} {bt bo bm nt no nm : Nat} {us : List Value} {ho : (Int → Option (Option (Nat × Nat × Nat)))} {fn : Int → Option Bool} {fo : Int → List Nat}
theorem hv_upd (ho : (Int → Option (Option (Nat × Nat × Nat)))) (x : Int) (a : Option (Nat × Nat × Nat)) (y : Int) : hv (upd ho x (some a)) y = if y = x then evSl a else hv ho y := by
  unfold hv upd
  by_cases h : y = x
  · rw [if_pos h, if_pos h]; rfl
  · rw [if_neg h, if_neg h]
/-- One list of clauses has grown. -/
theorem KQ.group (h : KQ w r S vl vt bt bo bm nt no nm us ho fn fo) (x : Int) (id : Nat) {g n c : Nat} {w2 w3 : World} {no' : Nat}
    (hp : AppPost (w.drew.alloc (.cells #[.int .i64 (id : Nat)] 3)) 3 1 (hv ho x) ((fo x).length + 1) (((fo x).map fun i => iv (i : Nat)) ++ [.int .i64 (id : Nat)]) (evSl (some (g, n, c))) w2)
    (hm : MapF eSl w3 bo no' (upd ho x (some (some (g, n, c))))) (hc3 : Chg (fun k => k = bo) w2 w3) :
    KQ w3 r S vl vt bt bo bm nt no' nm us (upd ho x (some (some (g, n, c)))) fn (updN fo x (fo x ++ [id])) ∧ Chg (fun k => k = bo ∨ HB ho k) w w3 ∧ (∀ k, HB (upd ho x (some (some (g, n, c)))) k → HB ho k ∨ w.heap.size ≤ k) := by
  obtain ⟨p1, p2, p3⟩ := hp
  obtain ⟨d1, d2, d3, d4, d5, d6⟩ := h.d
  have hown : (evSl (some (g, n, c))).ownBlock = some g := rfl
  have own' : (hv ho x).ownBlock = some g ∨ w.heap.size ≤ g := by
    rcases p3 with e | e
    · rw [hown] at e; exact .inl e.symm
    · rw [hown] at e; injection e with e; right; rw [e]; exact ((Chg.refl (fun _ => False) w).drew.alloc _).size
  have c2 : Chg (fun k => (hv ho x).ownBlock = some k) w w2 := (((Chg.refl (fun k => (hv ho x).ownBlock = some k) w).drew).alloc _).trans p2 (fun i hi => .inl hi)
  have c3 : Chg (fun k => k = bo ∨ (hv ho x).ownBlock = some k) w w3 := (c2.mono (S' := fun k => k = bo ∨ (hv ho x).ownBlock = some k) (fun i hi => .inr hi)).trans hc3 (fun i hi => .inl (.inl hi))
  have hHB : ∀ k, (hv ho x).ownBlock = some k → HB ho k := fun k hk => ⟨x, hk⟩
  have newB : ∀ k, HB (upd ho x (some (some (g, n, c)))) k → HB ho k ∨ w.heap.size ≤ k := fun k hk => by
    obtain ⟨y, hy⟩ := hk
    rw [hv_upd] at hy
    by_cases e : y = x
    · rw [if_pos e, hown] at hy
      injection hy with hy
      rcases own' with o | o
      · exact .inl (hHB k (by rw [o, hy]))
      · exact .inr (by omega)
    · rw [if_neg e] at hy
      exact .inl ⟨y, hy⟩
  have bl := h.b.lt
  have tl := h.t.lt
  have ol := h.o.lt
  have ml := h.m.lt
  refine ⟨⟨h.b.chg c3 (fun hS => ?_), h.l.chg c3 (fun k hk hS => ?_), ?_, h.t.chg c3 (fun hS => ?_), hm, fun y => ?_, h.m.chg c3 (fun hS => ?_), h.tr.chg c3 (fun k hk hS => ?_), h.d, h.sl, h.st, fun k hk => ?_, fun y z k hyz hy hz => ?_⟩, c3.mono (fun i hi => ?_), newB⟩
  · rcases hS with e | e
    · exact d2 e
    · exact (h.sh r (hHB r e)).1 rfl
  · rcases hS with e | e
    · exact (h.sl k hk).2.2.1 e
    · exact (h.sh k (hHB k e)).2.2.2.2.1 hk
  · refine ((h.c.mono (S' := fun k => KS r bt bo bm vl vt ho k ∨ w.heap.size ≤ k) (fun k hk hS => hS.resolve_right (by omega))).chg c3 (fun k hk hS => ?_)).mono (fun k hk hS => ?_)
    · rcases hS with e | e
      · exact .inl (.inr (.inr (.inl e)))
      · exact .inl (.inr (.inr (.inr (.inr (.inr (.inr (hHB k e)))))))
    · rcases hS with e | e | e | e | e | e | e
      · exact .inl (.inl e)
      · exact .inl (.inr (.inl e))
      · exact .inl (.inr (.inr (.inl e)))
      · exact .inl (.inr (.inr (.inr (.inl e))))
      · exact .inl (.inr (.inr (.inr (.inr (.inl e)))))
      · exact .inl (.inr (.inr (.inr (.inr (.inr (.inl e))))))
      · rcases newB k e with e | e
        · exact .inl (.inr (.inr (.inr (.inr (.inr (.inr e))))))
        · exact .inr e
  · rcases hS with e | e
    · exact d4 e
    · exact (h.sh bt (hHB bt e)).2.1 rfl
  · rw [hv_upd]
    unfold updN
    by_cases e : y = x
    · rw [if_pos e, if_pos e]
      have h1 : Row w3 3 1 (evSl (some (g, n, c))) ((fo x).length + 1) (((fo x).map fun i => iv (i : Nat)) ++ [.int .i64 (id : Nat)]) := Row.chg p1 hc3 (fun k hk hS => by
        rw [hown] at hk
        injection hk with hk
        rcases own' with o | o
        · exact (h.sh g (hHB g o)).2.2.1 (by omega)
        · omega)
      rw [List.length_append, List.map_append]
      exact h1
    · rw [if_neg e, if_neg e]
      refine (h.of y).chg c3 (fun k hk hS => ?_)
      rcases hS with e2 | e2
      · exact (h.sh k ⟨y, hk⟩).2.2.1 e2
      · exact h.sx y x k e hk e2
  · rcases hS with e | e
    · exact d6 e.symm
    · exact (h.sh bm (hHB bm e)).2.2.2.1 rfl
  · rcases hS with e | e
    · exact (h.st k hk).2.2.1 e
    · exact (h.sh k (hHB k e)).2.2.2.2.2 hk
  · rcases newB k hk with hk | hk
    · exact h.sh k hk
    · refine ⟨by omega, by omega, by omega, by omega, fun e => ?_, fun e => ?_⟩
      · have := h.l.lt k e; omega
      · have := h.tr.lt k e; omega
  · rw [hv_upd] at hy hz
    by_cases e1 : y = x
    · have e2 : z ≠ x := fun e2 => hyz (by rw [e1, e2])
      rw [if_pos e1, hown] at hy
      rw [if_neg e2] at hz
      injection hy with hy
      rcases own' with o | o
      · exact h.sx x z g (fun e => e2 e.symm) o (by rw [hz, hy])
      · have := (h.of z).lt k hz; omega
    · rw [if_neg e1] at hy
      by_cases e2 : z = x
      · rw [if_pos e2, hown] at hz
        injection hz with hz
        rcases own' with o | o
        · exact h.sx y x g e1 (by rw [hy, hz]) o
        · have := (h.of y).lt k hy; omega
      · rw [if_neg e2] at hz
        exact h.sx y z k hyz hy hz
  · rcases hi with e | e
    · exact .inl e
    · exact .inr (hHB i e)
end
end Go.Proofs.Ytknpfopepedmmaa
/-
  Package rup: Add, walked.
-/
namespace Go.Proofs.Ytknpfopepedmmaa
open Go Go.ChangeShapes Go.WideShapes Go.ChangeAt Go.RowKit Go.Maps
set_option linter.unusedVariables false
set_option linter.unusedSimpArgs false
/-- A checker in memory, its blocks among some. -/
def CkAt (w : World) (r : Nat) (S : RS) (K : Nat → Prop) : Prop := ∃ vl vt bt bo bm nt no nm us ho, KP w r S vl vt bt bo bm nt no nm us ho ∧ (∀ g, KS r bt bo bm vl vt ho g → K g) ∧ nt ≤ S.cl.length ∧ no ≤ 1000000 * S.cl.length ∧ ∀ u ∈ us, ∀ g, u.ownBlock = some g → K g
theorem KP.usLt {w : World} {r : Nat} {S : RS} {vl vt : Value} {bt bo bm nt no nm : Nat} {us : List Value} {ho : (Int → Option (Option (Nat × Nat × Nat)))} (h : KP w r S vl vt bt bo bm nt no nm us ho) : ∀ u ∈ us, ∀ g, u.ownBlock = some g → g < w.heap.size := fun u hu g hg => by
  obtain ⟨i, hi, e⟩ := List.getElem_of_mem hu
  have h1 := (h.c.2 i (by rw [← h.c.1]; exact hi)).2 g
  rw [List.getD_eq_getElem?_getD, List.getElem?_eq_getElem hi] at h1
  have h1 := h1 (by rw [← hg, ← e]; rfl)
  exact h1.2
theorem CkAt.below {w w' : World} {r : Nat} {S : RS} {K : Nat → Prop} (h : CkAt w r S K) (hb : Below w.heap.size w w') : CkAt w' r S K := by
  obtain ⟨vl, vt, bt, bo, bm, nt, no, nm, us, ho, h1, h2⟩ := h
  exact ⟨vl, vt, bt, bo, bm, nt, no, nm, us, ho, h1.below hb, h2⟩
def foK (S : RS) (n : List Int) (k : Nat) : Int → List Nat := fun x => if x ∈ n.take k then S.ofL x ++ [S.cl.length] else S.ofL x
theorem foK_next {S : RS} {n : List Int} (hn : n.Nodup) {k : Nat} (hk : k < n.length) : updN (foK S n k) (n.getD k 0) (foK S n k (n.getD k 0) ++ [S.cl.length]) = foK S n (k + 1) := by
  have e0 : n.getD k 0 = n[k] := by rw [List.getD_eq_getElem?_getD, List.getElem?_eq_getElem hk]; rfl
  have hnot : n.getD k 0 ∉ n.take k := fun h => by
    rw [e0] at h
    obtain ⟨j, hj, e⟩ := List.getElem_of_mem h
    have hjk : j < k := by rw [List.length_take] at hj; omega
    rw [List.getElem_take] at e
    exact List.pairwise_iff_getElem.1 hn j k (by omega) hk hjk e
  have hs : n.take (k + 1) = n.take k ++ [n.getD k 0] := by rw [e0, List.take_succ_eq_append_getElem hk]
  funext x
  unfold updN foK
  rw [hs]
  by_cases e : x = n.getD k 0
  · rw [if_pos e, if_neg hnot, e, if_pos (by simp)]
  · rw [if_neg e]
    by_cases h : x ∈ n.take k
    · rw [if_pos h, if_pos (List.mem_append.2 (.inl h))]
    · rw [if_neg h, if_neg]
      intro h2
      rcases List.mem_append.1 h2 with h2 | h2
      · exact h h2
      · exact e (List.mem_singleton.1 h2)
theorem foK_all (S : RS) (n : List Int) (x : Int) : foK S n n.length x = (S.more n).ofL x := by
  unfold foK
  rw [ofL_more, List.take_length]
  by_cases h : x ∈ n
  · rw [if_pos h, if_pos h]
  · rw [if_neg h, if_neg h, List.append_nil]
theorem KP.ksLt {w : World} {r : Nat} {S : RS} {vl vt : Value} {bt bo bm nt no nm : Nat} {us : List Value} {ho : (Int → Option (Option (Nat × Nat × Nat)))} (h : KP w r S vl vt bt bo bm nt no nm us ho) : ∀ g, KS r bt bo bm vl vt ho g → g < w.heap.size := fun g hg => by
  rcases hg with e | e | e | e | e | e | ⟨x, e⟩
  · rw [e]; exact h.b.lt
  · rw [e]; exact h.t.lt
  · rw [e]; exact h.o.lt
  · rw [e]; exact h.m.lt
  · exact h.l.lt g e
  · exact h.tr.lt g e
  · exact (h.of x).lt g e
/-- Between two literals of Add. -/
def AddR (w : World) (r : Nat) (S : RS) (n : List Int) (K : Nat → Prop) (vl vt : Value) (bt bo bm nt nm : Nat) (us : List Value) (k : Nat) (wr : World) : Prop :=
  ∃ no ho, KQ wr r (S.more n) vl vt bt bo bm nt no nm us ho (onF (S.more n)) (foK S n k) ∧ (∀ g, KS r bt bo bm vl vt ho g → K g ∨ w.heap.size ≤ g) ∧ no ≤ 1000000 * S.cl.length + k ∧ Chg K w wr
section
variable {w : World} {r : Nat} {S : RS} {K : Nat → Prop}
set_option maxHeartbeats 8000000 in
set_option maxRecDepth 100000 in
theorem add_ (h : CkAt w r S K) (hS : Set_ S S.cl.length) (hcl : S.cl.length ≤ 99999) {u : Value} {c : List Int} (hu : Ints w u c) (hc : ClauseL c) (h30 : Lit30s c) (hlen : c.length ≤ 1000000) :
    Calls Try.prog 14 #[kp r, u] w fun e w' => e = .returned (.int .i64 (S.cl.length : Nat)) ∧ Chg K w w' ∧ CkAt w' r (S.add (normC c)) (fun g => K g ∨ w.heap.size ≤ g) := by
  obtain ⟨vl, vt, bt, bo, bm, nt, no, nm, us, ho, hk, hK, hnt, hno⟩ := h
  obtain ⟨n, hn⟩ : ∃ n, n = normC c := ⟨_, rfl⟩
  have HNM := Lib.hid (cl_Norm hu hc hlen)
  have hnl : n.length ≤ 1000000 := by rw [hn]; have := length_normC c; omega
  have hnd : n.Nodup := by rw [hn]; exact (strict_normC c).imp fun {a b} h e => by rw [e] at h; omega
  have hn30 : Lit30s n := fun x hx => h30 x (by rw [hn] at hx; exact (mem_normC c x).1 hx)
  obtain ⟨al, cl, hvl⟩ : ∃ a c, vl = .slice a S.cl.length c := by
    rcases hk.l.form with ⟨e, e0, -⟩ | ⟨g, cap, e, -⟩
    · exact ⟨none, 0, by rw [e, e0]⟩
    · exact ⟨_, _, e⟩
  have c0 : w.cell? ⟨r, 0, none⟩ = some vl := hk.b.cell 0
  obtain ⟨a, cu, hun, -⟩ : ∃ a cu, u = .slice a c.length cu ∧ True := by
    obtain ⟨a, cu, e, -⟩ := hu
    exact ⟨a, cu, e, trivial⟩
  obtain ⟨m, hm⟩ : ∃ m, m = S.cl.length := ⟨_, rfl⟩
  rw [hvl, ← hm] at c0
  have HKP := Lib.hid hk
  have HKK := Lib.hid hK
  have HSS := Lib.hid hS
  have HNT := Lib.hid hnt
  have HNO := Lib.hid hno
  have HN30 := Lib.hid hn30
  have HND := Lib.hid hnd
  have HNL := Lib.hid hnl
  have HM := Lib.hid hm
  have HN := Lib.hid hn
  have HVL := Lib.hid hvl
  obtain ⟨nc, hnc⟩ : ∃ nc, nc = c.length := ⟨_, rfl⟩
  rw [hun, ← hnc] at HNM
  rw [hun, ← hnc]
  have hm9 : m ≤ 99999 := by omega
  rw [← hm]
  clear hk hK hS hnt hno hn30 hnd hnl hu hc h30 hlen hcl hn hm hun hnc hvl
  go_enter Try.func14, Try.ntmps14
  go_wp2_with fail
  refine HNM.out.mono ?_
  rintro e w1 ⟨u1, rfl, hown⟩
  have hown' : OwnI w w1 u1 n := by rw [HN.out]; exact hown
  obtain ⟨a1, cap1, hu1, -, -⟩ : ∃ a cap, u1 = .slice a n.length cap ∧ True ∧ True := by
    obtain ⟨a, cap, e, -⟩ := hown'.1.ints
    exact ⟨a, cap, e, trivial, trivial⟩
  have HOWN := Lib.hid hown'
  have HQ := Lib.hid (HKP.out.toQ.below hown'.2.1)
  have c0 : w1.cell? ⟨r, 0, none⟩ = some vl := HQ.out.b.cell 0
  rw [HVL.out, ← HM.out] at c0
  obtain ⟨q, hq⟩ : ∃ q, q = n.length := ⟨_, rfl⟩
  have HQN := Lib.hid hq
  rw [← hq] at hu1
  have hq9 : q ≤ 1000000 := by have := HNL.out; omega
  subst hu1
  clear hown hown' hq
  go_wp2_with (at_builtin; refine wpList_app rfl _ _ _ rfl 28 (.slice none 0 0) 1 24 Try.underlying26 infoL rfl (by decide) (.slice al m cl) m us rfl ?ho _ _ 1 1 [.slice a1 q cap1] rfl rfl ?hn ?hs ?c1 ?c2 ?_)
  case ho => have := HQ.out.l.alloc (.cells #[.slice a1 q cap1] 28); rw [HVL.out, ← HM.out] at this; exact this
  case hn => exact cellNew _ _ _ _ (by simp)
  case hs => exact oneCell1 rfl
  case c1 => unfold maxLen; omega
  case c2 => omega
  intro v3 wB hpF
  obtain ⟨g3, cp3, rfl, -, -, -⟩ := hpF.1.some_ (by omega)
  obtain ⟨b1, b2, b3, b4⟩ := HQ.out.push (n := n) (u := .slice a1 q cap1) (by have := HOWN.out.1.ints; exact this) (fun g hg => by
    have h1 := HOWN.out.2.2 g hg
    refine ⟨fun hS => by have := HKP.out.ksLt g hS; omega, HOWN.out.1.lt g hg⟩) (by rw [HVL.out, ← HM.out]; exact hpF)
  have kB0 : wB.cell? ⟨r, 0, none⟩ = some (.slice al m cl) := by have := b4.cell 0; rw [HVL.out, ← HM.out] at this; exact this
  have rB0 : wB.frozen? ⟨r, 0, none⟩ = false := b4.frozen 0
  have kB1 : wB.cell? ⟨r, 1, none⟩ = some (.map (some bt)) := b4.cell 1
  obtain ⟨vl2, hvl2⟩ : ∃ v, v = Value.slice (some ⟨g3, 0, none⟩) (m + 1) cp3 := ⟨_, rfl⟩
  rw [← hvl2] at b1 b2 b3
  have HVL2 := Lib.hid hvl2
  obtain ⟨wD, hst, hmD, hcD⟩ := b1.t.store tmB (n := nt) (by have := HNT.out; unfold maxLen; have := HM.out; omega) (x := (m : Int)) ⟨by omega, by omega⟩ true
  have eon : upd (onF S) (m : Int) (some true) = onF (S.more n) := by rw [onF_more HSS.out.inv.len n, ← HM.out]
  rw [eon] at hmD
  have HQD := Lib.hid (b1.there hmD hcD)
  have HCD : Hid (Chg K w wD) := Lib.hid ((((Chg.of_below (S := K) HOWN.out.2.1).trans b2 (fun i hi => by
    rcases hi with e | e
    · exact .inl (HKK.out i (.inl e))
    · exact .inl (HKK.out i (.inr (.inr (.inr (.inr (.inl e)))))))).trans hcD (fun i hi => .inl (HKK.out i (.inr (.inl hi))))))
  have HKS : Hid (∀ g, KS r bt bo bm vl2 vt ho g → K g ∨ w.heap.size ≤ g) := Lib.hid fun g hg => by
    rcases hg with e | e | e | e | e | e | e
    · exact .inl (HKK.out g (.inl e))
    · exact .inl (HKK.out g (.inr (.inl e)))
    · exact .inl (HKK.out g (.inr (.inr (.inl e))))
    · exact .inl (HKK.out g (.inr (.inr (.inr (.inl e)))))
    · rcases b3 with e' | ⟨g', e', hg'⟩
      · rw [e'] at e; exact .inl (HKK.out g (.inr (.inr (.inr (.inr (.inl e))))))
      · rw [e'] at e; injection e with e; have := HOWN.out.2.1.size; exact .inr (by omega)
    · exact .inl (HKK.out g (.inr (.inr (.inr (.inr (.inr (.inl e)))))))
    · exact .inl (HKK.out g (.inr (.inr (.inr (.inr (.inr (.inr e)))))))
  have H0 : Hid (AddR w r S n K vl2 vt bt bo bm (nt + 1) nm (us ++ [.slice a1 q cap1]) 0 wD) := Lib.hid ⟨no, ho, by
    have e : foK S n 0 = S.ofL := by funext x; unfold foK; simp
    rw [e]; exact HQD.out, HKS.out, by have := HNO.out; omega, HCD.out⟩
  replace hst : (Instr.mapUpdate 68 (.map (some bt)) (.int .i64 (m : Nat)) (.bool true)).run Try.prog (wB.setCell ⟨r, 0, none⟩ vl2) = .ok () wD := hst
  rw [hvl2] at hst
  clear b1 b2 b3 b4 hmD hcD eon hpF hvl2 c0
  go_wp2_with fail
  go_loopw [39] (fun i wr => ∃ k : Nat, k ≤ q ∧ i = .int .i64 (k : Nat) ∧ AddR w r S n K vl2 vt bt bo bm (nt + 1) nm (us ++ [.slice a1 q cap1]) k wr) (fun i _ => q - (intOf i).toNat)
  case atStart => exact ⟨0, Nat.zero_le _, rfl, H0.out⟩
  case round =>
    obtain ⟨k, hk, rfl, hR⟩ := hrel
    obtain ⟨no2, ho2, hQ2, hK2, hn2, hc2⟩ := hR
    have HQ2 := Lib.hid hQ2
    have HK2 := Lib.hid hK2
    have HN2 := Lib.hid hn2
    have HC2 := Lib.hid hc2
    clear hQ2 hK2 hn2 hc2
    by_cases hlt : (k : Int) < (q : Int)
    · have hkn : k < n.length := by have := HQN.out; omega
      have hus : us.length = S.cl.length := HKP.out.c.1
      have hgd : (us ++ [Value.slice a1 q cap1]).getD S.cl.length undef = Value.slice a1 q cap1 := by rw [← hus]; simp [List.getD]
      have hcn : (S.cl ++ [n]).getD S.cl.length [] = n := by simp [List.getD]
      have hI2 : Ints wr (.slice a1 q cap1) n := by
        have h1 := (HQ2.out.c.2 S.cl.length (by show S.cl.length < (S.cl ++ [n]).length; simp)).1
        rw [hgd] at h1
        have e : (S.more n).cl.getD S.cl.length [] = n := hcn
        rw [e] at h1
        exact h1
      obtain ⟨x, hx⟩ : ∃ x, x = n.getD k 0 := ⟨_, rfl⟩
      have hx30 : lit30 x := HN30.out x (by rw [hx, List.getD_eq_getElem?_getD, List.getElem?_eq_getElem hkn]; exact List.getElem_mem hkn)
      have hxin : in64 x := by obtain ⟨a, b, c⟩ := hx30; exact ⟨by omega, by omega⟩
      obtain ⟨bb, off, hab, qx⟩ : ∃ bb off, a1 = some ⟨bb, off, none⟩ ∧ wr.cell? ⟨bb, off + k, none⟩ = some (.int .i64 x) := by
        obtain ⟨a, cap, e, -, -, -, h3⟩ := hI2
        injection e with e1 e2 e3
        obtain ⟨b, off, h4, h5⟩ := h3.resolve_left (fun e => by rw [e] at hkn; simp at hkn)
        exact ⟨b, off, by rw [e1, h4], by rw [hx]; exact h5 k hkn⟩
      have k2 : wr.cell? ⟨r, 2, none⟩ = some (.map (some bo)) := HQ2.out.b.cell 2
      have k2d : wr.drew.cell? ⟨r, 2, none⟩ = some (.map (some bo)) := k2
      have hlk := HQ2.out.o.look tmO hxin
      replace hlk : (Instr.lookup 69 (.map (some bo)) (.int .i64 x) false).run Try.prog wr = .ok (hv ho2 x) wr := hlk
      obtain ⟨ah, lh, ch, hvh⟩ : ∃ a l c, hv ho2 x = .slice a l c := by
        rcases (HQ2.out.of x).form with ⟨e, -⟩ | ⟨g, cap, e, -⟩
        · exact ⟨none, 0, 0, e⟩
        · exact ⟨_, _, _, e⟩
      rw [hvh] at hlk
      have hlkd : (Instr.lookup 69 (.map (some bo)) (.int .i64 x) false).run Try.prog wr.drew = .ok (.slice ah lh ch) wr.drew := by
        have := (HQ2.out.below (Below.refl _ wr).drew).o.look tmO hxin
        replace this : (Instr.lookup 69 (.map (some bo)) (.int .i64 x) false).run Try.prog wr.drew = .ok (hv ho2 x) wr.drew := this
        rw [hvh] at this
        exact this
      have hlke : (Instr.lookup 69 (.map (some bo)) (.int .i64 x) false).run Try.prog ((wr.alloc (.cells #[.int .i64 (m : Nat)] 3)).drew) = .ok (.slice ah lh ch) ((wr.alloc (.cells #[.int .i64 (m : Nat)] 3)).drew) := by
        have := (HQ2.out.below (((Below.refl _ wr).alloc (Nat.le_refl _) (.cells #[.int .i64 (m : Nat)] 3)).drew)).o.look tmO hxin
        replace this : (Instr.lookup 69 (.map (some bo)) (.int .i64 x) false).run Try.prog ((wr.alloc (.cells #[.int .i64 (m : Nat)] 3)).drew) = .ok (hv ho2 x) ((wr.alloc (.cells #[.int .i64 (m : Nat)] 3)).drew) := this
        rw [hvh] at this
        exact this
      have hlkf : (Instr.lookup 69 (.map (some bo)) (.int .i64 x) false).run Try.prog (wr.drew.alloc (.cells #[.int .i64 (m : Nat)] 3)) = .ok (.slice ah lh ch) (wr.drew.alloc (.cells #[.int .i64 (m : Nat)] 3)) := hlke
      have HXX := Lib.hid hx
      have HXI := Lib.hid hxin
      have HVH := Lib.hid hvh
      have HFL : Hid ((foK S n k x).length ≤ 200000) := Lib.hid (by
        have h1 : (S.ofL x).length ≤ (List.range S.cl.length).length := List.length_filter_le _ _
        rw [List.length_range] at h1
        have h2 := HM.out
        unfold foK
        split
        · rw [List.length_append, List.length_singleton]; omega
        · omega)
      have HPE : Hid (Row (wr.drew.alloc (.cells #[.int .i64 (m : Nat)] 3)) 3 1 (.slice ah lh ch) (foK S n k x).length ((foK S n k x).map fun i => iv (i : Nat))) := Lib.hid (by
        have := ((HQ2.out.of x).drew).alloc (.cells #[.int .i64 (m : Nat)] 3)
        rw [hvh] at this
        exact this)
      have hrl : r < wr.heap.size := HQ2.out.b.lt
      subst hab
      clear hgd hcn hI2 hx hx30 hxin hvh hus hkn
      go_wp2_with fail
      go_region_law (first
        | (refine step_app rfl (.tmp 53) (.tmp 55) _ rfl 3 (.int .i64 0) 1 8 Try.underlying28 infoI rfl (by decide) (.slice ah lh ch) (foK S n k x).length ((foK S n k x).map fun i => iv (i : Nat)) (by simp [Act.eval]) ?ho wr.heap.size 0 1 1 [.int .i64 (m : Nat)] (by simp [Act.eval]) rfl ?hn ?hs ?c1 ?c2 ?_
           case ho => exact HPE.out
           case hn => exact cellNew _ _ _ _ (by simp)
           case hs => exact oneCell1 rfl
           case c1 => have := HFL.out; unfold maxLen; omega
           case c2 => have := HFL.out; omega
           intro v3 wE hpE
           obtain ⟨g5, cp5, rfl, -, -, -⟩ := hpE.1.some_ (by omega)
           have hpE' : AppPost (wr.drew.alloc (.cells #[.int .i64 (S.cl.length : Nat)] 3)) 3 1 (hv ho2 x) ((foK S n k x).length + 1) (((foK S n k x).map fun i => iv (i : Nat)) ++ [.int .i64 (S.cl.length : Nat)]) (evSl (some (g5, (foK S n k x).length + 1, cp5))) wE := by rw [HVH.out, ← HM.out]; exact hpE
           have kE2 : wE.cell? ⟨r, 2, none⟩ = some (.map (some bo)) := ((HQ2.out.b.chg (S := fun _ => False) (((Chg.refl (fun _ => False) wr).drew).alloc (.cells #[.int .i64 (S.cl.length : Nat)] 3)) (fun e => e)).chg hpE'.2.1 (fun e => (HQ2.out.sh r ⟨x, e⟩).1 rfl)).cell 2
           have hoE : MapF eSl wE bo no2 ho2 := (HQ2.out.o.chg (S := fun _ => False) (((Chg.refl (fun _ => False) wr).drew).alloc (.cells #[.int .i64 (S.cl.length : Nat)] 3)) (fun e => e)).chg hpE'.2.1 (fun e => (HQ2.out.sh bo ⟨x, e⟩).2.2.1 rfl)
           obtain ⟨wF, hst2, hmF, hcF⟩ := hoE.store tmO (by have := HN2.out; have := HM.out; unfold maxLen; omega) HXI.out (some (g5, (foK S n k x).length + 1, cp5))
           obtain ⟨d1, d2, d3⟩ := HQ2.out.group x S.cl.length hpE' hmF hcF
           replace hst2 : (Instr.mapUpdate 69 (.map (some bo)) (.int .i64 x) (.slice (some ⟨g5, 0, none⟩) ((foK S n k x).length + 1) cp5)).run Try.prog wE = .ok () wF := hst2
           have HA : Hid (AddR w r S n K vl2 vt bt bo bm (nt + 1) nm (us ++ [.slice (some ⟨bb, off, none⟩) q cap1]) (k + 1) wF) := Lib.hid ⟨_, _, by
             have e := foK_next HND.out (S := S) (k := k) (by have := HQN.out; omega)
             rw [← HXX.out] at e
             rw [← e]; exact d1, fun g hg => by
             rcases hg with e | e | e | e | e | e | e
             · exact HK2.out g (.inl e)
             · exact HK2.out g (.inr (.inl e))
             · exact HK2.out g (.inr (.inr (.inl e)))
             · exact HK2.out g (.inr (.inr (.inr (.inl e))))
             · exact HK2.out g (.inr (.inr (.inr (.inr (.inl e)))))
             · exact HK2.out g (.inr (.inr (.inr (.inr (.inr (.inl e))))))
             · rcases d3 g e with e | e
               · exact HK2.out g (.inr (.inr (.inr (.inr (.inr (.inr e))))))
               · have := HC2.out.size; exact .inr (by omega), by have := HN2.out; omega, HC2.out.trans d2 (fun i hi => by
             rcases hi with e | e
             · exact HK2.out i (.inr (.inr (.inl e)))
             · exact HK2.out i (.inr (.inr (.inr (.inr (.inr (.inr e)))))))⟩
           clear hpE hpE' hoE hmF hcF d1 d2 d3))
      all_goals
        go_wp2_with fail
        go_roundw
        case rel => exact ⟨k + 1, by omega, by go_num, HA.out⟩
        case measure => simp [intOf]; omega
    · obtain rfl : k = q := by omega
      have hKP := HQ2.out.toP rfl (fun x => by rw [HQN.out]; exact foK_all S n x)
      have hRI := HSS.out.inv.more HN30.out HND.out
      have HST := Lib.hid (settle_ hKP hRI (by rw [more_len]; have := HM.out; omega) (i := S.cl.length) (by rw [more_len]; omega) (more_last HSS.out.inv.len).2)
      rw [← HM.out] at HST
      have HKP2 := Lib.hid hKP
      clear hKP hRI
      go_wp2_with fail
      refine HST.out.mono ?_
      rintro e w5 ⟨rfl, vt5, nm5, hk5, hc5, ho5⟩
      have HF : Hid (Chg K w w5 ∧ CkAt w5 r (S.add n) (fun g => K g ∨ w.heap.size ≤ g)) := Lib.hid (by
        have hadd := add_law HSS.out HN30.out HND.out
        have e5 : (S.add n).cl.length = S.cl.length + 1 := by rw [hadd.2.1]; simp
        refine ⟨HC2.out.trans hc5 (fun i hi => ?_), vl2, vt5, bt, bo, bm, nt + 1, no2, nm5, us ++ [.slice a1 k cap1], ho2, ?_, fun g hg => ?_, ?_, ?_, ?_⟩
        · rcases hi with e | e | e
          · exact HK2.out i (.inl e)
          · exact HK2.out i (.inr (.inr (.inr (.inl e))))
          · exact HK2.out i (.inr (.inr (.inr (.inr (.inr (.inl e))))))
        · unfold RS.add; rw [← HM.out]; exact hk5
        · rcases hg with e | e | e | e | e | e | e
          · exact HK2.out g (.inl e)
          · exact HK2.out g (.inr (.inl e))
          · exact HK2.out g (.inr (.inr (.inl e)))
          · exact HK2.out g (.inr (.inr (.inr (.inl e))))
          · exact HK2.out g (.inr (.inr (.inr (.inr (.inl e)))))
          · rcases ho5 with o | ⟨g', o, hg'⟩
            · rw [o] at e; exact HK2.out g (.inr (.inr (.inr (.inr (.inr (.inl e))))))
            · rw [o] at e; injection e with e; have := HC2.out.size; exact .inr (by omega)
          · exact HK2.out g (.inr (.inr (.inr (.inr (.inr (.inr e))))))
        · rw [e5]; have := HNT.out; omega
        · rw [e5]; have := HN2.out; omega
        · intro u9 hu9 g hg
          rcases List.mem_append.1 hu9 with hu9 | hu9
          · exact .inl (HNO.out.2 u9 hu9 g hg)
          · rw [List.mem_singleton.1 hu9] at hg; exact .inr (HOWN.out.2.2 g hg))
      rw [HN.out] at HF
      clear hk5 hc5 ho5
      go_wp2
      go_ret
      exact ⟨rfl, HF.out⟩
end
end Go.Proofs.Ytknpfopepedmmaa
/-
  Package rup: New, walked.
-/
namespace Go.Proofs.Ytknpfopepedmmaa
open Go Go.ChangeShapes Go.WideShapes Go.ChangeAt Go.RowKit Go.Maps
set_option linter.unusedVariables false
set_option linter.unusedSimpArgs false
/-- Nothing is kept. -/
def RS0 : RS := ⟨[], [], [], 0, -1⟩
set_option maxHeartbeats 4000000 in
set_option maxRecDepth 100000 in
theorem rupNew_ (w : World) :
    Calls Try.prog 12 #[] w fun e w' => ∃ r, e = .returned (kp r) ∧ Below w.heap.size w w' ∧ CkAt w' r RS0 (fun g => w.heap.size ≤ g) := by
  have hmm := @run_makeMap Try.prog
  go_enter Try.func12, Try.ntmps12
  go_wp2_with fail
  go_returns
  obtain ⟨N, hN⟩ : ∃ N, N = w.heap.size := ⟨_, rfl⟩
  have m1 : MapF eBool (w.alloc (.map #[] 0)) N 0 (fun _ => none) := by rw [hN]; exact MapF.made _ _
  have m2 : MapF eSl ((w.alloc (.map #[] 0)).alloc (.map #[] 0)) (N + 1) 0 (fun _ => none) := by
    have := MapF.made eSl (w.alloc (.map #[] 0))
    simp only [World.size_alloc, ← hN] at this
    exact this
  have m3 : MapF eMark (((w.alloc (.map #[] 0)).alloc (.map #[] 0)).alloc (.map #[] 0)) (N + 1 + 1) 0 (fun _ => none) := by
    have := MapF.made eMark ((w.alloc (.map #[] 0)).alloc (.map #[] 0))
    simp only [World.size_alloc, ← hN] at this
    exact this
  have m4 := Blk.new (((w.alloc (.map #[] 0)).alloc (.map #[] 0)).alloc (.map #[] 0)) 72 #[.slice none 0 0, .map (some N), .map (some (N + 1)), .map (some (N + 1 + 1)), .slice none 0 0, .int .i64 0, .int .i64 (-1)]
  simp only [World.size_alloc, ← hN] at m4
  rw [← hN]
  have a1 : ∀ (α : Type) (E : EKnd α) (w : World) (b n : Nat) (f : Int → Option α) (o : Obj), MapF E w b n f → MapF E (w.alloc o) b n f := fun α E w b n f o h => h.chg (S := fun _ => False) (Chg.of_below (Below.alloc (Below.refl _ _) (Nat.le_refl _) o)) (fun e => e)
  refine ⟨N + 1 + 1 + 1, by first | rfl | rw [hN]; rfl, ?_, .slice none 0 0, .slice none 0 0, N, N + 1, N + 1 + 1, 0, 0, 0, [], fun _ => none, ?_, ?_, Nat.le_refl _, Nat.le_refl _, fun u hu => by simp at hu⟩
  · exact (((Below.refl _ w).alloc (by omega) _).alloc (by simp; omega) _).alloc (by simp; omega) _ |>.alloc (by simp; omega) _
  · refine ⟨?_, World.ownsRow_nil _ _ _ _, ⟨rfl, fun j hj => absurd hj (by simp [RS0])⟩, ?_, ?_, fun x => World.ownsRow_nil _ _ _ _, ?_, World.ownsRow_nil _ _ _ _, by omega, fun g hg => by simp [Value.ownBlock] at hg, fun g hg => by simp [Value.ownBlock] at hg, fun g hg => by obtain ⟨x, hx⟩ := hg; simp [hv, evSl, Value.ownBlock] at hx, fun x y g _ hg => by simp [hv, evSl, Value.ownBlock] at hg⟩
    · exact m4
    · have e : onF RS0 = fun _ => none := by funext x; simp [onF, RS0, RS.onA]
      rw [e]
      exact a1 _ _ _ _ _ _ _ (a1 _ _ _ _ _ _ _ (a1 _ _ _ _ _ _ _ m1))
    · exact a1 _ _ _ _ _ _ _ (a1 _ _ _ _ _ _ _ m2)
    · have e : markF RS0 = fun _ => none := by funext x; simp [markF, RS0]
      rw [e]
      exact a1 _ _ _ _ _ _ _ m3
  · intro g hg
    rcases hg with e | e | e | e | e | e | ⟨x, e⟩
    · rw [e]; omega
    · rw [e]; omega
    · rw [e]; omega
    · rw [e]; omega
    · simp [Value.ownBlock] at e
    · simp [Value.ownBlock] at e
    · simp [hv, evSl, Value.ownBlock] at e
end Go.Proofs.Ytknpfopepedmmaa
/-
  Package rup: Len, walked.
-/
namespace Go.Proofs.Ytknpfopepedmmaa
open Go Go.ChangeShapes Go.WideShapes Go.ChangeAt Go.RowKit Go.Maps
set_option linter.unusedVariables false
set_option linter.unusedSimpArgs false
/-- How many clauses are there. -/
def RS.live (S : RS) : List Nat := (List.range S.on.length).filter S.onA
theorem RS.live_mem {S : RS} {i : Nat} : i ∈ S.live ↔ S.onA i = true := by
  unfold RS.live
  rw [List.mem_filter, List.mem_range]
  refine ⟨fun h => h.2, fun h => ⟨?_, h⟩⟩
  unfold RS.onA at h
  by_cases hl : i < S.on.length
  · exact hl
  · rw [List.getD_eq_getElem?_getD, List.getElem?_eq_none (by omega)] at h; simp at h
theorem RS.live_len {S : RS} {ks : List Int} (hn : ks.Nodup) (hm : ∀ x, x ∈ ks ↔ (onF S x).isSome = true) : ks.length = S.live.length := by
  have hp : ks.Perm (S.live.map fun i : Nat => (i : Int)) := by
    refine (List.perm_ext_iff_of_nodup hn ?_).2 ?_
    · have h0 : S.live.Nodup := List.nodup_range.filter _
      rw [List.Nodup, List.pairwise_map]
      exact h0.imp fun h e => h (by omega)
    · intro x
      rw [hm, List.mem_map]
      constructor
      · intro h
        unfold onF at h
        by_cases hc : 0 ≤ x ∧ S.onA x.toNat = true
        · exact ⟨x.toNat, RS.live_mem.2 hc.2, by omega⟩
        · rw [if_neg hc] at h; simp at h
      · rintro ⟨i, hi, rfl⟩
        unfold onF
        rw [if_pos ⟨by omega, by simpa using RS.live_mem.1 hi⟩]; rfl
  rw [hp.length_eq, List.length_map]
set_option maxHeartbeats 4000000 in
set_option maxRecDepth 100000 in
theorem rupLen_ {w : World} {r : Nat} {S : RS} {K : Nat → Prop} (h : CkAt w r S K) :
    Calls Try.prog 21 #[kp r] w fun e w' => e = .returned (.int .i64 (S.live.length : Nat)) ∧ w' = w := by
  obtain ⟨vl, vt, bt, bo, bm, nt, no, nm, us, ho, hk, hK, hnt, hno⟩ := h
  obtain ⟨ks, h1, h2, h3⟩ := hk.t.len tmB 3
  have c1 : w.cell? ⟨r, 1, none⟩ = some (.map (some bt)) := hk.b.cell 1
  have hl := RS.live_len h2 h3
  rw [hl] at h1
  clear hk hK hnt hno h2 h3 hl
  go_enter Try.func21, Try.ntmps21
  go_wp2_with fail
  go_returns
  exact ⟨rfl, rfl⟩
end Go.Proofs.Ytknpfopepedmmaa
/-
  Package rup: again, walked.
-/
namespace Go.Proofs.Ytknpfopepedmmaa
open Go Go.ChangeShapes Go.WideShapes Go.ChangeAt Go.RowKit Go.Maps
set_option linter.unusedVariables false
set_option linter.unusedSimpArgs false
section
variable {w : World} {r : Nat} {S : RS} {vl vt : Value} {bt bo bm nt no nm : Nat} {us : List Value} {ho : (Int → Option (Option (Nat × Nat × Nat)))}
/-- All that holds is forgotten; a new map. -/
theorem KP.fresh (h : KP w r S vl vt bt bo bm nt no nm us ho) : AsgQ (w.alloc (.map #[] 0)) r S.wipe vl (.slice none 0 0) bt bo w.heap.size nt no us ho (((((w.alloc (.map #[] 0)).setCell ⟨r, 3, none⟩ (.map (some w.heap.size))).setCell ⟨r, 4, none⟩ (.slice none 0 0)).setCell ⟨r, 5, none⟩ (.int .i64 0)).setCell ⟨r, 6, none⟩ (.int .i64 (-1))) := by
  have hb1 : Below w.heap.size w (w.alloc (.map #[] 0)) := (Below.refl _ w).alloc (Nat.le_refl _) _
  have h1 := h.below hb1
  have hc : Chg (fun k => k = r) (w.alloc (.map #[] 0)) (((((w.alloc (.map #[] 0)).setCell ⟨r, 3, none⟩ (.map (some w.heap.size))).setCell ⟨r, 4, none⟩ (.slice none 0 0)).setCell ⟨r, 5, none⟩ (.int .i64 0)).setCell ⟨r, 6, none⟩ (.int .i64 (-1))) := ((((Chg.refl (fun k => k = r) _).setCell (p := ⟨r, 3, none⟩) (.inl rfl) _).setCell (p := ⟨r, 4, none⟩) (.inl rfl) _).setCell (p := ⟨r, 5, none⟩) (.inl rfl) _).setCell (p := ⟨r, 6, none⟩) (.inl rfl) _
  have hr := h.b.lt
  have hbt := h.t.lt
  have hbo := h.o.lt
  obtain ⟨d1, d2, d3, d4, d5, d6⟩ := h.d
  refine ⟨.slice none 0 0, 0, ⟨?_, h1.l.chg hc (fun g hg e => (h1.sl g hg).1 e), ?_, h1.t.chg hc (fun e => d1 e.symm), h1.o.chg hc (fun e => d2 e.symm), fun x => (h1.of x).chg hc (fun g hg e => (h1.sh g ⟨x, hg⟩).1 e), ?_, World.ownsRow_nil _ _ _ _, ⟨d1, d2, by omega, d4, by omega, by omega⟩, fun g hg => ?_, fun g hg => by simp [Value.ownBlock] at hg, fun g hg => ?_, h.sx⟩, hc.mono (fun g hg => .inl hg), .inl rfl⟩
  · exact ((((h1.b.set_ 3 _).set_ 4 _).set_ 5 _).set_ 6 _)
  · refine ((h.c.mono (S' := KS r bt bo w.heap.size vl (.slice none 0 0) ho) fun g hg hk => ?_).below hb1).chg hc (fun g _ e => .inl e)
    rcases hk with e | e | e | e | e | e | e
    · exact .inl e
    · exact .inr (.inl e)
    · exact .inr (.inr (.inl e))
    · omega
    · exact .inr (.inr (.inr (.inr (.inl e))))
    · simp [Value.ownBlock] at e
    · exact .inr (.inr (.inr (.inr (.inr (.inr e)))))
  · have e : markF S.wipe = fun _ => none := by funext x; simp [markF, RS.wipe]
    rw [e]
    exact (MapF.made eMark w).chg hc (fun e => by omega)
  · obtain ⟨a1, a2, a3, a4, a5⟩ := h.sl g hg
    exact ⟨a1, a2, a3, by have := h.l.lt g hg; omega, by simp [Value.ownBlock]⟩
  · obtain ⟨a1, a2, a3, a4, a5, a6⟩ := h.sh g hg
    obtain ⟨x, hx⟩ := hg
    exact ⟨a1, a2, a3, by have := (h.of x).lt g hx; omega, a5, by simp [Value.ownBlock]⟩
set_option maxHeartbeats 4000000 in
set_option maxRecDepth 100000 in
theorem again_ (h : KP w r S vl vt bt bo bm nt no nm us ho) (hl : S.on.length = S.cl.length) (hcl : S.cl.length ≤ 1000000) (h0 : ∀ i, i < S.cl.length → Lit30s (S.c i) ∧ (S.c i).Nodup) :
    Calls Try.prog 45 #[kp r] w fun e w' => e = .returned (.tuple #[]) ∧ AsgQ (w.alloc (.map #[] 0)) r (S.againN S.cl.length) vl (.slice none 0 0) bt bo w.heap.size nt no us ho w' := by
  have hmm := @run_makeMap Try.prog
  obtain ⟨al, cl, hvl⟩ : ∃ a c, vl = .slice a S.cl.length c := by
    rcases h.l.form with ⟨e, e0, -⟩ | ⟨g, cap, e, -⟩
    · exact ⟨none, 0, by rw [e, e0]⟩
    · exact ⟨_, _, e⟩
  have c0 : w.cell? ⟨r, 0, none⟩ = some vl := h.b.cell 0
  have c3 : w.cell? ⟨r, 3, none⟩ = some (.map (some bm)) := h.b.cell 3
  have c4 : w.cell? ⟨r, 4, none⟩ = some vt := h.b.cell 4
  have c5 : w.cell? ⟨r, 5, none⟩ = some (.int .i64 (S.base : Nat)) := h.b.cell 5
  have c6 : w.cell? ⟨r, 6, none⟩ = some (.int .i64 S.bk) := h.b.cell 6
  have f3 := h.b.frozen 3
  have f4 := h.b.frozen 4
  have f5 := h.b.frozen 5
  have f6 := h.b.frozen 6
  obtain ⟨m, hm⟩ : ∃ m, m = S.cl.length := ⟨_, rfl⟩
  rw [hvl, ← hm] at c0
  have hlt := h.b.lt
  have HK := Lib.hid h
  have HM := Lib.hid hm
  have HL0 := Lib.hid hl
  have HC0 := Lib.hid hcl
  have H00 := Lib.hid h0
  have HVL := Lib.hid hvl
  have hm9 : m ≤ 1000000 := by omega
  clear h hl hcl h0 hm hvl
  go_enter Try.func45, Try.ntmps45
  go_wp2_with fail
  go_loopw [21] (fun i wr => ∃ k : Nat, k ≤ m ∧ i = .int .i64 (k : Nat) ∧ AsgQ (w.alloc (.map #[] 0)) r (S.againN k) vl (.slice none 0 0) bt bo w.heap.size nt no us ho wr) (fun i _ => m - (intOf i).toNat)
  case atStart =>
    refine ⟨0, Nat.zero_le _, rfl, ?_⟩
    have h5 := HK.out.fresh
    simp only [World.setCell_alloc_past _ _ _ _ hlt] at h5
    rw [World.setCell_alloc_past _ _ _ _ (by simpa using hlt), World.setCell_alloc_past _ _ _ _ (by simpa using hlt), World.setCell_alloc_past _ _ _ _ (by simpa using hlt)] at h5
    exact h5
  case round =>
    obtain ⟨k, hk, rfl, hR⟩ := hrel
    obtain ⟨vt2, nm2, hK2, hc2, ho2⟩ := hR
    have HK2 := Lib.hid hK2
    have HC2 := Lib.hid hc2
    have HO2 := Lib.hid ho2
    by_cases hk2 : (k : Int) < (m : Int)
    · have q1 : wr.cell? ⟨r, 1, none⟩ = some (.map (some bt)) := hK2.b.cell 1
      have hlk := hK2.t.look tmB (x := (k : Int)) ⟨by omega, by omega⟩
      obtain ⟨bb, hbb⟩ : ∃ bb, bb = (S.againN k).onA k := ⟨_, rfl⟩
      have HBB := Lib.hid hbb
      have e1 : (onF (S.againN k) (k : Int)).getD false = bb := by
        unfold onF
        rw [hbb]
        cases hq : (S.againN k).onA k <;> simp [hq]
      replace hlk : (Instr.lookup 68 (.map (some bt)) (.int .i64 (k : Nat)) false).run Try.prog wr = .ok (.bool ((onF (S.againN k) (k : Int)).getD false)) wr := hlk
      rw [e1] at hlk
      have hal := again_law HL0.out H00.out k (by have := HM.out; omega)
      have HAL := Lib.hid hal
      clear hal e1 hK2 hc2 ho2
      cases bb with
      | true =>
        have hST := settle_ HK2.out HAL.out.1.inv (by rw [HAL.out.2.1]; have := HM.out; omega) (i := k) (by rw [HAL.out.2.1]; have := HM.out; omega) hbb.symm
        have HST := Lib.hid hST
        clear hbb hST
        go_wp2_with fail
        refine HST.out.mono ?_
        rintro e w5 ⟨rfl, vt5, nm5, hk5, hc5, ho5⟩
        have HA : Hid (AsgQ (w.alloc (.map #[] 0)) r (S.againN (k + 1)) vl (.slice none 0 0) bt bo w.heap.size nt no us ho w5) := Lib.hid (by
          rw [RS.againN, if_pos HBB.out.symm]
          exact AsgQ.trans HK2.out HC2.out HO2.out ⟨vt5, nm5, hk5, hc5, ho5⟩)
        clear hk5 hc5 ho5
        go_wp2
        go_roundw
        case rel => exact ⟨k + 1, by omega, by go_num, HA.out⟩
        case measure => simp [intOf]; omega
      | false =>
        have HA : Hid (AsgQ (w.alloc (.map #[] 0)) r (S.againN (k + 1)) vl (.slice none 0 0) bt bo w.heap.size nt no us ho wr) := Lib.hid (by
          rw [RS.againN, if_neg (by rw [← HBB.out]; decide)]
          exact ⟨vt2, nm2, HK2.out, HC2.out, HO2.out⟩)
        clear hbb
        go_wp2
        go_roundw
        case rel => exact ⟨k + 1, by omega, by go_num, HA.out⟩
        case measure => simp [intOf]; omega
    · have HE : Hid (k = m) := Lib.hid (by omega)
      clear hK2 hc2 ho2
      go_wp2
      go_returns
      refine ⟨rfl, ?_⟩
      have e := HE.out
      rw [← HM.out, ← e]
      exact ⟨vt2, nm2, HK2.out, HC2.out, HO2.out⟩
end
end Go.Proofs.Ytknpfopepedmmaa
