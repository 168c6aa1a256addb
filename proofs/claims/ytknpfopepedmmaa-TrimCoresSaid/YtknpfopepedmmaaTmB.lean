/-
  Package trim: the record in memory.
-/
import Derived.Test.YtknpfopepedmmaaTmA
namespace Go.Proofs.Ytknpfopepedmmaa
open Go Go.ChangeShapes Go.WideShapes Go.ChangeAt Go.RowKit Go.Maps
set_option linter.unusedVariables false
set_option linter.unusedSimpArgs false
def natI (R : List Nat) : List Int := R.map fun i : Nat => (i : Int)
theorem natI_len (R : List Nat) : (natI R).length = R.length := by unfold natI; rw [List.length_map]
theorem row_natI {w : World} {v : Value} {R : List Nat} (h : Row w 3 1 v R.length (R.map fun i : Nat => iv (i : Nat))) : Ints w v (natI R) := by
  refine Row.ints (e := 3) ?_
  rw [natI_len]
  have : (natI R).map iv = R.map fun i : Nat => iv (i : Nat) := by unfold natI; rw [List.map_map]; rfl
  rw [this]; exact h
/-- The blocks of a record. -/
def XR (rb : Nat) (hv tv : Value) (us : List Value) (g : Nat) : Prop := g = rb ∨ hv.ownBlock = some g ∨ tv.ownBlock = some g ∨ ∃ u ∈ us, u.ownBlock = some g
structure RecX (w wr : World) (rb r : Nat) (S : RS) (hv tv : Value) (us : List Value) (ws : List (List Nat)) (ts : List Nat) (E : Nat → Prop) : Prop where
  x : OwnX w wr r S (fun g => XR rb hv tv us g ∨ E g)
  b : Blk wr rb 91 #[kp r, hv, tv]
  h : Row wr 28 1 hv ws.length us
  c : Cls wr (fun g => g = rb ∨ hv.ownBlock = some g ∨ tv.ownBlock = some g) us (ws.map natI)
  t : Row wr 3 1 tv ts.length (ts.map fun i : Nat => iv (i : Nat))
  o1 : w.heap.size ≤ rb
  o2 : ∀ g, hv.ownBlock = some g → w.heap.size ≤ g ∧ g ≠ rb ∧ tv.ownBlock ≠ some g
  o3 : ∀ g, tv.ownBlock = some g → w.heap.size ≤ g ∧ g ≠ rb
section
variable {w wr : World} {rb r : Nat} {S : RS} {hv tv : Value} {us : List Value} {ws : List (List Nat)} {ts : List Nat} {E : Nat → Prop}
theorem Cls.own {w : World} {S : Nat → Prop} {us : List Value} {xss : List (List Int)} (h : Cls w S us xss) : ∀ u ∈ us, ∀ g, u.ownBlock = some g → ¬ S g ∧ g < w.heap.size := fun u hu g hg => by
  obtain ⟨i, hi, e⟩ := List.getElem_of_mem hu
  refine (h.2 i (by rw [← h.1]; exact hi)).2 g ?_
  rw [List.getD_eq_getElem?_getD, List.getElem?_eq_getElem hi]
  show us[i].ownBlock = some g
  rw [e]; exact hg
theorem Cls.cells {w : World} {S : Nat → Prop} {us : List Value} {xss : List (List Int)} (h : Cls w S us xss) : ∀ u ∈ us, u.oneCell' = true := fun u hu => by
  obtain ⟨i, hi, e⟩ := List.getElem_of_mem hu
  have := (h.2 i (by rw [← h.1]; exact hi)).1
  rw [List.getD_eq_getElem?_getD, List.getElem?_eq_getElem hi] at this
  obtain ⟨a, c, e2, -⟩ := this
  have e2 : us[i] = .slice a (xss.getD i []).length c := e2
  rw [← e, e2]; rfl
theorem RecX.lt (h : RecX w wr rb r S hv tv us ws ts E) : ∀ g, XR rb hv tv us g → g < wr.heap.size := fun g hg => by
  rcases hg with e | e | e | ⟨u, hu, e⟩
  · rw [e]; exact h.b.lt
  · exact h.h.lt g e
  · exact h.t.lt g e
  · exact (h.c.own u hu g e).2
theorem RecX.below (h : RecX w wr rb r S hv tv us ws ts E) {w2 : World} (hb : Below wr.heap.size wr w2) : RecX w w2 rb r S hv tv us ws ts E :=
  ⟨h.x.below hb, h.b.below hb h.b.lt, h.h.chg (S := fun _ => False) (Chg.of_below hb) (fun _ _ e => e), h.c.below hb, h.t.chg (S := fun _ => False) (Chg.of_below hb) (fun _ _ e => e), h.o1, h.o2, h.o3⟩
theorem RecX.weak (h : RecX w wr rb r S hv tv us ws ts E) {E2 : Nat → Prop} (he : ∀ g, E2 g → E g) : RecX w wr rb r S hv tv us ws ts E2 :=
  ⟨h.x.weak (fun g hg => hg.elim .inl (fun e => .inr (he g e))), h.b, h.h, h.c, h.t, h.o1, h.o2, h.o3⟩
/-- Behind a call of the checker's. -/
theorem RecX.call (h : RecX w wr rb r S hv tv us ws ts E) {w2 : World} {S2 : RS} {E2 : Nat → Prop} (hx : OwnX w w2 r S2 (fun g => XR rb hv tv us g ∨ E2 g)) (hc : Chg (fun g => w.heap.size ≤ g ∧ ¬ (XR rb hv tv us g ∨ E g)) wr w2) : RecX w w2 rb r S2 hv tv us ws ts E2 :=
  ⟨hx, h.b.chg hc (fun e => e.2 (.inl (.inl rfl))), h.h.chg hc (fun g hg e => e.2 (.inl (.inr (.inl hg)))),
   ⟨h.c.1, fun j hj => ⟨(h.c.2 j hj).1.chg hc (fun g hg e => e.2 (.inl (.inr (.inr (.inr ⟨_, by
      have hj2 : j < us.length := by rw [h.c.1]; exact hj
      rw [List.getD_eq_getElem?_getD, List.getElem?_eq_getElem hj2]; exact List.getElem_mem hj2, hg⟩))))), fun g hg => ⟨((h.c.2 j hj).2 g hg).1, Nat.lt_of_lt_of_le ((h.c.2 j hj).2 g hg).2 hc.size⟩⟩⟩,
   h.t.chg hc (fun g hg e => e.2 (.inl (.inr (.inr (.inl hg))))), h.o1, h.o2, h.o3⟩
theorem RecX.pushH (h : RecX w wr rb r S hv tv us ws ts E) {u v3 : Value} {R : List Nat} (hu : Ints wr u (natI R)) (hE : ∀ g, u.ownBlock = some g → ¬ (g = rb ∨ hv.ownBlock = some g ∨ tv.ownBlock = some g) ∧ g < wr.heap.size ∧ E g) {w3 : World} (hp : AppPost (wr.alloc (.cells #[u] 28)) 28 1 hv (ws.length + 1) (us ++ [u]) v3 w3) :
    Blk w3 rb 91 #[kp r, hv, tv] ∧ RecX w (w3.setCell ⟨rb, 1, none⟩ v3) rb r S v3 tv (us ++ [u]) (ws ++ [R]) ts (fun _ => False) := by
  obtain ⟨p1, p2, p3⟩ := hp
  have hb1 := below_new1 wr (.cells #[u] 28)
  have hs1 : wr.heap.size ≤ (wr.alloc (.cells #[u] 28)).heap.size := hb1.size
  have hbw : Below w.heap.size w w3 := (h.x.b.trans (hb1.mono h.x.b.size)).trans (p2.below (by have := h.x.b.size; omega) (fun i hi => (h.o2 i hi).1))
  have own3 : ∀ g, v3.ownBlock = some g → hv.ownBlock = some g ∨ wr.heap.size ≤ g := fun g hg => by
    rcases p3 with e | e
    · exact .inl (by rw [← e]; exact hg)
    · rw [e] at hg; injection hg with hg; exact .inr (by omega)
  have ne3 : ∀ g, v3.ownBlock = some g → w.heap.size ≤ g ∧ g ≠ rb ∧ tv.ownBlock ≠ some g := fun g hg => by
    rcases own3 g hg with e | e
    · exact h.o2 g e
    · have h1 := h.b.lt
      exact ⟨Nat.le_trans h.x.b.size e, by omega, fun e2 => by have := h.t.lt g e2; omega⟩
  have hB3 : Blk w3 rb 91 #[kp r, hv, tv] := (h.b.below hb1 h.b.lt).chg p2 (fun e => (h.o2 rb e).2.1 rfl)
  refine ⟨hB3, ?_⟩
  have cs : Chg (fun g => g = rb) w3 (w3.setCell ⟨rb, 1, none⟩ v3) := (Chg.refl (fun g => g = rb) w3).setCell (p := ⟨rb, 1, none⟩) (.inl rfl) _
  have hbw2 : Below w.heap.size w (w3.setCell ⟨rb, 1, none⟩ v3) := hbw.trans (cs.below hbw.size (fun i hi => by rw [hi]; exact h.o1))
  have x1 : OwnX w wr r S (fun g => (XR rb hv tv us g ∨ E g) ∨ v3.ownBlock = some g) := h.x.fresh (fun g hg => by
    rcases hg with e | e
    · exact .inl e
    · rcases own3 g e with e | e
      · exact .inl (.inl (.inr (.inl e)))
      · exact .inr e)
  have x2 : OwnX w w3 r S (fun g => (XR rb hv tv us g ∨ E g) ∨ v3.ownBlock = some g) := (x1.below hb1).chgX (p2.mono (fun g hg => .inl (.inl (.inr (.inl hg))))) hbw
  have x3 : OwnX w (w3.setCell ⟨rb, 1, none⟩ v3) r S (fun g => (XR rb hv tv us g ∨ E g) ∨ v3.ownBlock = some g) := x2.chgX (cs.mono (fun g hg => .inl (.inl (.inl hg)))) hbw2
  have cc : Cls wr (fun g => g = rb ∨ hv.ownBlock = some g ∨ tv.ownBlock = some g) (us ++ [u]) ((ws ++ [R]).map natI) := by
    rw [List.map_append]
    exact h.c.snoc hu (fun g hg => ⟨(hE g hg).1, (hE g hg).2.1⟩)
  have cc1 := (cc.below hb1).chg (S' := fun g => hv.ownBlock = some g) p2 (fun g _ hg => .inr (.inl hg))
  have cc2 := cc1.chg (S' := fun g => g = rb) cs (fun g _ hg => .inl hg)
  refine ⟨x3.weak (fun g hg => ?_), ?_, ?_, ⟨cc2.1, fun j hj => ⟨(cc2.2 j hj).1, fun g hg => ⟨fun e => ?_, ((cc2.2 j hj).2 g hg).2⟩⟩⟩, (((h.t.chg (S := fun _ => False) (Chg.of_below hb1) (fun _ _ e => e)).chg p2 (fun g hg e => (h.o2 g e).2.2 hg)).chg cs (fun g hg e => (h.o3 g hg).2 e)), h.o1, ne3, h.o3⟩
  · rcases hg with (e | e | e | ⟨u', hu', e⟩) | e
    · exact .inl (.inl (.inl e))
    · exact .inr e
    · exact .inl (.inl (.inr (.inr (.inl e))))
    · rcases List.mem_append.1 hu' with hm | hm
      · exact .inl (.inl (.inr (.inr (.inr ⟨u', hm, e⟩))))
      · rw [List.mem_singleton.1 hm] at e
        exact .inl (.inr (hE g e).2.2)
    · exact e.elim
  · exact Blk.set_ hB3 1 v3
  · rw [List.length_append]
    exact p1.chg cs (fun g hg e => (ne3 g hg).2.1 e)
  · rcases e with e | e | e
    · exact ((cc2.2 j hj).2 g hg).1 (.inl e)
    · rcases own3 g e with e | e
      · exact ((cc2.2 j hj).2 g hg).1 (.inr (.inl e))
      · have := ((cc.2 j hj).2 g hg).2; omega
    · exact ((cc2.2 j hj).2 g hg).1 (.inr (.inr e))
theorem RecX.pushT (h : RecX w wr rb r S hv tv us ws ts E) {k : Nat} {v3 : Value} {w3 : World} (hp : AppPost (wr.alloc (.cells #[.int .i64 (k : Nat)] 3)) 3 1 tv (ts.length + 1) ((ts.map fun i : Nat => iv (i : Nat)) ++ [.int .i64 (k : Nat)]) v3 w3) :
    Blk w3 rb 91 #[kp r, hv, tv] ∧ RecX w (w3.setCell ⟨rb, 2, none⟩ v3) rb r S hv v3 us ws (ts ++ [k]) (fun _ => False) := by
  obtain ⟨p1, p2, p3⟩ := hp
  have hb1 := below_new1 wr (.cells #[.int .i64 (k : Nat)] 3)
  have hs1 : wr.heap.size ≤ (wr.alloc (.cells #[.int .i64 (k : Nat)] 3)).heap.size := hb1.size
  have hbw : Below w.heap.size w w3 := (h.x.b.trans (hb1.mono h.x.b.size)).trans (p2.below (by have := h.x.b.size; omega) (fun i hi => (h.o3 i hi).1))
  have own3 : ∀ g, v3.ownBlock = some g → tv.ownBlock = some g ∨ wr.heap.size ≤ g := fun g hg => by
    rcases p3 with e | e
    · exact .inl (by rw [← e]; exact hg)
    · rw [e] at hg; injection hg with hg; exact .inr (by omega)
  have ne3 : ∀ g, v3.ownBlock = some g → w.heap.size ≤ g ∧ g ≠ rb := fun g hg => by
    rcases own3 g hg with e | e
    · exact h.o3 g e
    · have h1 := h.b.lt
      exact ⟨Nat.le_trans h.x.b.size e, by omega⟩
  have hB3 : Blk w3 rb 91 #[kp r, hv, tv] := (h.b.below hb1 h.b.lt).chg p2 (fun e => (h.o3 rb e).2 rfl)
  refine ⟨hB3, ?_⟩
  have cs : Chg (fun g => g = rb) w3 (w3.setCell ⟨rb, 2, none⟩ v3) := (Chg.refl (fun g => g = rb) w3).setCell (p := ⟨rb, 2, none⟩) (.inl rfl) _
  have hbw2 : Below w.heap.size w (w3.setCell ⟨rb, 2, none⟩ v3) := hbw.trans (cs.below hbw.size (fun i hi => by rw [hi]; exact h.o1))
  have x1 : OwnX w wr r S (fun g => (XR rb hv tv us g ∨ E g) ∨ v3.ownBlock = some g) := h.x.fresh (fun g hg => by
    rcases hg with e | e
    · exact .inl e
    · rcases own3 g e with e | e
      · exact .inl (.inl (.inr (.inr (.inl e))))
      · exact .inr e)
  have x2 : OwnX w w3 r S (fun g => (XR rb hv tv us g ∨ E g) ∨ v3.ownBlock = some g) := (x1.below hb1).chgX (p2.mono (fun g hg => .inl (.inl (.inr (.inr (.inl hg)))))) hbw
  have x3 : OwnX w (w3.setCell ⟨rb, 2, none⟩ v3) r S (fun g => (XR rb hv tv us g ∨ E g) ∨ v3.ownBlock = some g) := x2.chgX (cs.mono (fun g hg => .inl (.inl (.inl hg)))) hbw2
  have cc1 := (h.c.below hb1).chg (S' := fun g => tv.ownBlock = some g) p2 (fun g _ hg => .inr (.inr hg))
  have cc2 := cc1.chg (S' := fun g => g = rb) cs (fun g _ hg => .inl hg)
  refine ⟨x3.weak (fun g hg => ?_), ?_, ((h.h.chg (S := fun _ => False) (Chg.of_below hb1) (fun _ _ e => e)).chg p2 (fun g hg e => (h.o2 g hg).2.2 e)).chg cs (fun g hg e => (h.o2 g hg).2.1 e), ⟨cc2.1, fun j hj => ⟨(cc2.2 j hj).1, fun g hg => ⟨fun e => ?_, ((cc2.2 j hj).2 g hg).2⟩⟩⟩, ?_, h.o1, fun g hg => ⟨(h.o2 g hg).1, (h.o2 g hg).2.1, fun e => ?_⟩, ne3⟩
  · rcases hg with (e | e | e | ⟨u', hu', e⟩) | e
    · exact .inl (.inl (.inl e))
    · exact .inl (.inl (.inr (.inl e)))
    · exact .inr e
    · exact .inl (.inl (.inr (.inr (.inr ⟨u', hu', e⟩))))
    · exact e.elim
  · exact Blk.set_ hB3 2 v3
  · rcases e with e | e | e
    · exact ((cc2.2 j hj).2 g hg).1 (.inl e)
    · exact ((cc2.2 j hj).2 g hg).1 (.inr (.inl e))
    · rcases own3 g e with e | e
      · exact ((cc2.2 j hj).2 g hg).1 (.inr (.inr e))
      · have := ((h.c.2 j hj).2 g hg).2; omega
  · rw [List.length_append, List.map_append]
    exact p1.chg cs (fun g hg e => (ne3 g hg).2 e)
  · rcases own3 g e with e | e
    · exact (h.o2 g hg).2.2 e
    · have := h.h.lt g hg; omega
end
end Go.Proofs.Ytknpfopepedmmaa
