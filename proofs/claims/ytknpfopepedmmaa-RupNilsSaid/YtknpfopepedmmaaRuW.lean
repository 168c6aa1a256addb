/-
  Package rup: Add, walked.
-/
import Derived.Test.YtknpfopepedmmaaRuV
import Derived.Deep.RegionLaw
namespace Go.Proofs.Ytknpfopepedmmaa
open Go Go.ChangeShapes Go.WideShapes Go.ChangeAt Go.RowKit Go.Maps
set_option linter.unusedVariables false
set_option linter.unusedSimpArgs false
def updN (f : Int → List Nat) (x : Int) (v : List Nat) : Int → List Nat := fun y => if y = x then v else f y
section
variable {w : World} {r : Nat} {S : RS} {vl vt : Value} {bt bo bm nt no nm : Nat} {us : List Value} {ho : (Int → Option (Option (Nat × Nat × Nat)))} {fn : Int → Option Bool} {fo : Int → List Nat}
theorem hv_upd (ho : (Int → Option (Option (Nat × Nat × Nat)))) (x : Int) (a : Option (Nat × Nat × Nat)) (y : Int) : hv (upd ho x (some a)) y = if y = x then evSl a else hv ho y := by
  unfold hv upd
  by_cases h : y = x
  · rw [if_pos h, if_pos h]; rfl
  · rw [if_neg h, if_neg h]
/-- One list of clauses has grown. -/
theorem KQ.group (h : KQ w r S vl vt bt bo bm nt no nm us ho fn fo) (x : Int) (id : Nat) {g n c : Nat} {w2 w3 : World} {no' : Nat}
    (hp : AppPost (w.drew.alloc (.cells #[.int .i64 (id : Nat)] 3)) 3 1 (hv ho x) ((fo x).length + 1) (((fo x).map fun i => iv (i : Nat)) ++ [.int .i64 (id : Nat)]) (evSl (some (g, n, c))) w2)
    (hm : MapF eSl w3 bo no' (upd ho x (some (some (g, n, c))))) (hc3 : Chg (fun k => k = bo) w2 w3) :
    KQ w3 r S vl vt bt bo bm nt no' nm us (upd ho x (some (some (g, n, c)))) fn (updN fo x (fo x ++ [id])) ∧ Chg (fun k => k = bo ∨ HB ho k) w w3 ∧ (∀ k, HB (upd ho x (some (some (g, n, c)))) k → HB ho k ∨ w.heap.size ≤ k) := by
  obtain ⟨p1, p2, p3⟩ := hp
  obtain ⟨d1, d2, d3, d4, d5, d6⟩ := h.d
  have hown : (evSl (some (g, n, c))).ownBlock = some g := rfl
  have own' : (hv ho x).ownBlock = some g ∨ w.heap.size ≤ g := by
    rcases p3 with e | e
    · rw [hown] at e; exact .inl e.symm
    · rw [hown] at e; injection e with e; right; rw [e]; exact ((Chg.refl (fun _ => False) w).drew.alloc _).size
  have c2 : Chg (fun k => (hv ho x).ownBlock = some k) w w2 := (((Chg.refl (fun k => (hv ho x).ownBlock = some k) w).drew).alloc _).trans p2 (fun i hi => .inl hi)
  have c3 : Chg (fun k => k = bo ∨ (hv ho x).ownBlock = some k) w w3 := (c2.mono (S' := fun k => k = bo ∨ (hv ho x).ownBlock = some k) (fun i hi => .inr hi)).trans hc3 (fun i hi => .inl (.inl hi))
  have hHB : ∀ k, (hv ho x).ownBlock = some k → HB ho k := fun k hk => ⟨x, hk⟩
  have newB : ∀ k, HB (upd ho x (some (some (g, n, c)))) k → HB ho k ∨ w.heap.size ≤ k := fun k hk => by
    obtain ⟨y, hy⟩ := hk
    rw [hv_upd] at hy
    by_cases e : y = x
    · rw [if_pos e, hown] at hy
      injection hy with hy
      rcases own' with o | o
      · exact .inl (hHB k (by rw [o, hy]))
      · exact .inr (by omega)
    · rw [if_neg e] at hy
      exact .inl ⟨y, hy⟩
  have bl := h.b.lt
  have tl := h.t.lt
  have ol := h.o.lt
  have ml := h.m.lt
  refine ⟨⟨h.b.chg c3 (fun hS => ?_), h.l.chg c3 (fun k hk hS => ?_), ?_, h.t.chg c3 (fun hS => ?_), hm, fun y => ?_, h.m.chg c3 (fun hS => ?_), h.tr.chg c3 (fun k hk hS => ?_), h.d, h.sl, h.st, fun k hk => ?_, fun y z k hyz hy hz => ?_⟩, c3.mono (fun i hi => ?_), newB⟩
  · rcases hS with e | e
    · exact d2 e
    · exact (h.sh r (hHB r e)).1 rfl
  · rcases hS with e | e
    · exact (h.sl k hk).2.2.1 e
    · exact (h.sh k (hHB k e)).2.2.2.2.1 hk
  · refine ((h.c.mono (S' := fun k => KS r bt bo bm vl vt ho k ∨ w.heap.size ≤ k) (fun k hk hS => hS.resolve_right (by omega))).chg c3 (fun k hk hS => ?_)).mono (fun k hk hS => ?_)
    · rcases hS with e | e
      · exact .inl (.inr (.inr (.inl e)))
      · exact .inl (.inr (.inr (.inr (.inr (.inr (.inr (hHB k e)))))))
    · rcases hS with e | e | e | e | e | e | e
      · exact .inl (.inl e)
      · exact .inl (.inr (.inl e))
      · exact .inl (.inr (.inr (.inl e)))
      · exact .inl (.inr (.inr (.inr (.inl e))))
      · exact .inl (.inr (.inr (.inr (.inr (.inl e)))))
      · exact .inl (.inr (.inr (.inr (.inr (.inr (.inl e))))))
      · rcases newB k e with e | e
        · exact .inl (.inr (.inr (.inr (.inr (.inr (.inr e))))))
        · exact .inr e
  · rcases hS with e | e
    · exact d4 e
    · exact (h.sh bt (hHB bt e)).2.1 rfl
  · rw [hv_upd]
    unfold updN
    by_cases e : y = x
    · rw [if_pos e, if_pos e]
      have h1 : Row w3 3 1 (evSl (some (g, n, c))) ((fo x).length + 1) (((fo x).map fun i => iv (i : Nat)) ++ [.int .i64 (id : Nat)]) := Row.chg p1 hc3 (fun k hk hS => by
        rw [hown] at hk
        injection hk with hk
        rcases own' with o | o
        · exact (h.sh g (hHB g o)).2.2.1 (by omega)
        · omega)
      rw [List.length_append, List.map_append]
      exact h1
    · rw [if_neg e, if_neg e]
      refine (h.of y).chg c3 (fun k hk hS => ?_)
      rcases hS with e2 | e2
      · exact (h.sh k ⟨y, hk⟩).2.2.1 e2
      · exact h.sx y x k e hk e2
  · rcases hS with e | e
    · exact d6 e.symm
    · exact (h.sh bm (hHB bm e)).2.2.2.1 rfl
  · rcases hS with e | e
    · exact (h.st k hk).2.2.1 e
    · exact (h.sh k (hHB k e)).2.2.2.2.2 hk
  · rcases newB k hk with hk | hk
    · exact h.sh k hk
    · refine ⟨by omega, by omega, by omega, by omega, fun e => ?_, fun e => ?_⟩
      · have := h.l.lt k e; omega
      · have := h.tr.lt k e; omega
  · rw [hv_upd] at hy hz
    by_cases e1 : y = x
    · have e2 : z ≠ x := fun e2 => hyz (by rw [e1, e2])
      rw [if_pos e1, hown] at hy
      rw [if_neg e2] at hz
      injection hy with hy
      rcases own' with o | o
      · exact h.sx x z g (fun e => e2 e.symm) o (by rw [hz, hy])
      · have := (h.of z).lt k hz; omega
    · rw [if_neg e1] at hy
      by_cases e2 : z = x
      · rw [if_pos e2, hown] at hz
        injection hz with hz
        rcases own' with o | o
        · exact h.sx y x g e1 (by rw [hy, hz]) o
        · have := (h.of y).lt k hy; omega
      · rw [if_neg e2] at hz
        exact h.sx y z k hyz hy hz
  · rcases hi with e | e
    · exact .inl e
    · exact .inr (hHB i e)
end
end Go.Proofs.Ytknpfopepedmmaa
