/-
  Package trim: what is kept, in memory.
-/
import Derived.Test.YtknpfopepedmmaaTmD
import Derived.Test.YtknpfopepedmmaaClone
namespace Go.Proofs.Ytknpfopepedmmaa
open Go Go.ChangeShapes Go.WideShapes Go.ChangeAt Go.RowKit Go.Maps
set_option linter.unusedVariables false
set_option linter.unusedSimpArgs false
def stCells (vs : List Value) : List Value := vs.flatMap fun v => [.bool false, v]
theorem stCells_len (vs : List Value) : (stCells vs).length = 2 * vs.length := by
  induction vs with
  | nil => rfl
  | cons v vs ih => unfold stCells at *; rw [List.flatMap_cons, List.length_append, ih]; simp; omega
theorem stCells_snoc (vs : List Value) (u : Value) : stCells (vs ++ [u]) = stCells vs ++ [.bool false, u] := by unfold stCells; simp
theorem stCells_at : ∀ (vs : List Value) (j : Nat), j < vs.length → (stCells vs).getD (j * 2) undef = .bool false ∧ (stCells vs).getD (j * 2 + 1) undef = vs.getD j undef
  | [], j, h => by simp at h
  | v :: vs, 0, _ => ⟨rfl, rfl⟩
  | v :: vs, j + 1, h => by
    have e : stCells (v :: vs) = .bool false :: v :: stCells vs := by unfold stCells; simp
    obtain ⟨h1, h2⟩ := stCells_at vs j (by simpa using h)
    rw [e, show (j + 1) * 2 = j * 2 + 1 + 1 by omega]
    exact ⟨h1, h2⟩
structure OutS (w6 WW : World) (ob : Nat) (uv sv : Value) (vs : List Value) (us : List Nat) (cs : List (List Int)) : Prop where
  b : Blk WW ob 60 #[uv, sv, .int .i64 (-1)]
  u : Row WW 3 1 uv us.length (us.map fun i : Nat => iv (i : Nat))
  s : Row WW 52 2 sv cs.length (stCells vs)
  c : Cls WW (fun g => g < w6.heap.size ∨ uv.ownBlock = some g ∨ sv.ownBlock = some g) vs cs
  o1 : ob < w6.heap.size
  o2 : ∀ g, uv.ownBlock = some g → w6.heap.size ≤ g ∧ sv.ownBlock ≠ some g
  o3 : ∀ g, sv.ownBlock = some g → w6.heap.size ≤ g
  ch : Chg (fun g => g = ob) w6 WW
section
variable {w6 WW : World} {ob : Nat} {uv sv : Value} {vs : List Value} {us : List Nat} {cs : List (List Int)}
theorem OutS.below (h : OutS w6 WW ob uv sv vs us cs) {W2 : World} (hb : Below WW.heap.size WW W2) : OutS w6 W2 ob uv sv vs us cs :=
  ⟨h.b.below hb h.b.lt, h.u.chg (S := fun _ => False) (Chg.of_below hb) (fun _ _ e => e), h.s.chg (S := fun _ => False) (Chg.of_below hb) (fun _ _ e => e), h.c.below hb, h.o1, h.o2, h.o3, h.ch.trans (Chg.of_below (S := fun _ => False) hb) (fun i hi => hi.elim)⟩
theorem OutS.start {w6 : World} {ob : Nat} (hb : Blk w6 ob 60 #[.slice none 0 0, .slice none 0 0, .int .i64 (-1)]) : OutS w6 w6 ob (.slice none 0 0) (.slice none 0 0) [] [] [] :=
  ⟨hb, World.ownsRow_nil _ _ _ _, World.ownsRow_nil _ _ _ _, Cls.nil _ _, hb.lt, fun g hg => by simp [Value.ownBlock] at hg, fun g hg => by simp [Value.ownBlock] at hg, Chg.refl _ _⟩
theorem OutS.pushU (h : OutS w6 WW ob uv sv vs us cs) {k : Nat} {v3 : Value} {w3 : World} (hp : AppPost (WW.alloc (.cells #[.int .i64 (k : Nat)] 3)) 3 1 uv (us.length + 1) ((us.map fun i : Nat => iv (i : Nat)) ++ [.int .i64 (k : Nat)]) v3 w3) :
    Blk w3 ob 60 #[uv, sv, .int .i64 (-1)] ∧ OutS w6 (w3.setCell ⟨ob, 0, none⟩ v3) ob v3 sv vs (us ++ [k]) cs := by
  obtain ⟨p1, p2, p3⟩ := hp
  have hb1 := below_new1 WW (.cells #[.int .i64 (k : Nat)] 3)
  have hs1 : WW.heap.size ≤ (WW.alloc (.cells #[.int .i64 (k : Nat)] 3)).heap.size := hb1.size
  have hsz := h.ch.size
  have own3 : ∀ g, v3.ownBlock = some g → uv.ownBlock = some g ∨ WW.heap.size ≤ g := fun g hg => by
    rcases p3 with e | e
    · exact .inl (by rw [← e]; exact hg)
    · rw [e] at hg; injection hg with hg; exact .inr (by omega)
  have ne3 : ∀ g, v3.ownBlock = some g → w6.heap.size ≤ g ∧ sv.ownBlock ≠ some g := fun g hg => by
    rcases own3 g hg with e | e
    · exact h.o2 g e
    · exact ⟨by omega, fun e2 => by have := h.s.lt g e2; omega⟩
  have hB3 : Blk w3 ob 60 #[uv, sv, .int .i64 (-1)] := (h.b.below hb1 h.b.lt).chg p2 (fun e => by have := (h.o2 ob e).1; have := h.o1; omega)
  have cs' : Chg (fun g => g = ob) w3 (w3.setCell ⟨ob, 0, none⟩ v3) := (Chg.refl (fun g => g = ob) w3).setCell (p := ⟨ob, 0, none⟩) (.inl rfl) _
  have cc1 := (h.c.below hb1).chg (S' := fun g => uv.ownBlock = some g) p2 (fun g _ hg => .inr (.inl hg))
  have cc2 := cc1.chg (S' := fun g => g = ob) cs' (fun g _ hg => .inl (by rw [hg]; exact h.o1))
  refine ⟨hB3, hB3.set_ 0 v3, ?_, ((h.s.chg (S := fun _ => False) (Chg.of_below hb1) (fun _ _ e => e)).chg p2 (fun g hg e => (h.o2 g e).2 hg)).chg cs' (fun g hg e => by have := h.o3 g hg; have := h.o1; omega), ⟨cc2.1, fun j hj => ⟨(cc2.2 j hj).1, fun g hg => ⟨fun e => ?_, ((cc2.2 j hj).2 g hg).2⟩⟩⟩, h.o1, ne3, h.o3, ?_⟩
  · rw [List.length_append, List.map_append]
    exact p1.chg cs' (fun g hg e => by have := (ne3 g hg).1; have := h.o1; omega)
  · rcases e with e | e | e
    · exact ((cc2.2 j hj).2 g hg).1 (.inl e)
    · rcases own3 g e with e | e
      · exact ((cc2.2 j hj).2 g hg).1 (.inr (.inl e))
      · have := ((h.c.2 j hj).2 g hg).2; omega
    · exact ((cc2.2 j hj).2 g hg).1 (.inr (.inr e))
  · have c1 : Chg (fun g => g = ob) w6 (WW.alloc (.cells #[.int .i64 (k : Nat)] 3)) := h.ch.trans (Chg.of_below (S := fun _ => False) hb1) (fun i hi => hi.elim)
    exact (c1.trans p2 (fun i hi => .inr (h.o2 i hi).1)).trans cs' (fun i hi => .inl hi)
theorem OutS.pushS (h : OutS w6 WW ob uv sv vs us cs) {u v3 : Value} {c : List Int} (hu : Ints WW u c) (hE : ∀ g, u.ownBlock = some g → ¬ (g < w6.heap.size ∨ uv.ownBlock = some g ∨ sv.ownBlock = some g) ∧ g < WW.heap.size) {w3 : World} (hp : AppPost (WW.alloc (.cells #[.bool false, u] 52)) 52 2 sv (cs.length + 1) (stCells vs ++ [.bool false, u]) v3 w3) :
    Blk w3 ob 60 #[uv, sv, .int .i64 (-1)] ∧ OutS w6 (w3.setCell ⟨ob, 1, none⟩ v3) ob uv v3 (vs ++ [u]) us (cs ++ [c]) := by
  obtain ⟨p1, p2, p3⟩ := hp
  have hb1 := below_new1 WW (.cells #[.bool false, u] 52)
  have hs1 : WW.heap.size ≤ (WW.alloc (.cells #[.bool false, u] 52)).heap.size := hb1.size
  have hsz := h.ch.size
  have own3 : ∀ g, v3.ownBlock = some g → sv.ownBlock = some g ∨ WW.heap.size ≤ g := fun g hg => by
    rcases p3 with e | e
    · exact .inl (by rw [← e]; exact hg)
    · rw [e] at hg; injection hg with hg; exact .inr (by omega)
  have ne3 : ∀ g, v3.ownBlock = some g → w6.heap.size ≤ g ∧ uv.ownBlock ≠ some g := fun g hg => by
    rcases own3 g hg with e | e
    · exact ⟨h.o3 g e, fun e2 => (h.o2 g e2).2 e⟩
    · exact ⟨by omega, fun e2 => by have := h.u.lt g e2; omega⟩
  have hB3 : Blk w3 ob 60 #[uv, sv, .int .i64 (-1)] := (h.b.below hb1 h.b.lt).chg p2 (fun e => by have := h.o3 ob e; have := h.o1; omega)
  have cs' : Chg (fun g => g = ob) w3 (w3.setCell ⟨ob, 1, none⟩ v3) := (Chg.refl (fun g => g = ob) w3).setCell (p := ⟨ob, 1, none⟩) (.inl rfl) _
  have cc : Cls WW (fun g => g < w6.heap.size ∨ uv.ownBlock = some g ∨ sv.ownBlock = some g) (vs ++ [u]) (cs ++ [c]) := h.c.snoc hu hE
  have cc1 := (cc.below hb1).chg (S' := fun g => sv.ownBlock = some g) p2 (fun g _ hg => .inr (.inr hg))
  have cc2 := cc1.chg (S' := fun g => g = ob) cs' (fun g _ hg => .inl (by rw [hg]; exact h.o1))
  refine ⟨hB3, hB3.set_ 1 v3, ((h.u.chg (S := fun _ => False) (Chg.of_below hb1) (fun _ _ e => e)).chg p2 (fun g hg e => (h.o2 g hg).2 e)).chg cs' (fun g hg e => by have := (h.o2 g hg).1; have := h.o1; omega), ?_, ⟨cc2.1, fun j hj => ⟨(cc2.2 j hj).1, fun g hg => ⟨fun e => ?_, ((cc2.2 j hj).2 g hg).2⟩⟩⟩, h.o1, fun g hg => ⟨(h.o2 g hg).1, fun e => (ne3 g e).2 hg⟩, fun g hg => (ne3 g hg).1, ?_⟩
  · rw [List.length_append, stCells_snoc]
    exact p1.chg cs' (fun g hg e => by have := (ne3 g hg).1; have := h.o1; omega)
  · rcases e with e | e | e
    · exact ((cc2.2 j hj).2 g hg).1 (.inl e)
    · exact ((cc2.2 j hj).2 g hg).1 (.inr (.inl e))
    · rcases own3 g e with e | e
      · exact ((cc2.2 j hj).2 g hg).1 (.inr (.inr e))
      · have := ((cc.2 j hj).2 g hg).2; omega
  · have c1 : Chg (fun g => g = ob) w6 (WW.alloc (.cells #[.bool false, u] 52)) := h.ch.trans (Chg.of_below (S := fun _ => False) hb1) (fun i hi => hi.elim)
    exact (c1.trans p2 (fun i hi => .inr (h.o3 i hi))).trans cs' (fun i hi => .inl hi)
theorem OutS.ints (h : OutS w6 WW ob uv sv vs us cs) : Ints WW uv (natI us) := row_natI h.u
theorem OutS.fin (h : OutS w6 WW ob uv sv vs us cs) {rs : Nat} (hr : rs < w6.heap.size) {W2 : World} (hc : Chg (fun g => g = rs) WW W2) : Ints W2 uv (natI us) ∧ StpS W2 sv (cs.map fun c => (false, c)) := by
  refine ⟨row_natI (h.u.chg hc (fun g hg e => by have := (h.o2 g hg).1; omega)), ?_⟩
  have hs2 := h.s.chg hc (fun g hg e => by have := h.o3 g hg; omega)
  have hc2 := h.c.chg (S' := fun g => g = rs) hc (fun g _ hg => .inl (by rw [hg]; exact hr))
  have hlv : vs.length = cs.length := h.c.1
  rcases hs2.form with ⟨e, e0, -⟩ | ⟨g, cap, e, h1, h2, -, hc⟩
  · have : cs = [] := List.eq_nil_of_length_eq_zero e0
    subst this
    exact ⟨none, 0, e, by simp, by simp, .inl rfl⟩
  · refine ⟨_, cap, by rw [List.length_map]; exact e, by rw [List.length_map]; exact h1, h2, .inr ⟨g, 0, rfl, fun j hj => ?_⟩⟩
    rw [List.length_map] at hj
    have e1 : (cs.map fun c => ((false, c) : Stp)).getD j (false, []) = (false, cs.getD j []) := by
      rw [List.getD_eq_getElem?_getD, List.getElem?_map, List.getElem?_eq_getElem hj, List.getD_eq_getElem?_getD, List.getElem?_eq_getElem hj]; rfl
    rw [e1]
    obtain ⟨s1, s2⟩ := stCells_at vs j (by rw [hlv]; exact hj)
    have hl2 := stCells_len vs
    have k1 := (hc (j * 2) (by rw [hl2, hlv]; omega)).1
    have k2 := (hc (j * 2 + 1) (by rw [hl2, hlv]; omega)).1
    rw [s1] at k1
    rw [s2] at k2
    refine ⟨by rw [Nat.zero_add]; exact k1, _, by rw [Nat.zero_add]; exact k2, (hc2.2 j hj).1⟩
theorem OutS.formU (h : OutS w6 WW ob uv sv vs us cs) : ∃ a c, uv = .slice a us.length c := by
  rcases h.u.form with ⟨e, e0, -⟩ | ⟨g, cap, e, -⟩
  · exact ⟨none, 0, by rw [e, e0]⟩
  · exact ⟨_, cap, e⟩
theorem OutS.formS (h : OutS w6 WW ob uv sv vs us cs) : ∃ a c, sv = .slice a cs.length c := by
  rcases h.s.form with ⟨e, e0, -⟩ | ⟨g, cap, e, -⟩
  · exact ⟨none, 0, by rw [e, e0]⟩
  · exact ⟨_, cap, e⟩
end
theorem infoST : (Try.prog.info? 52).map (fun i => (i.zero, i.size, i.bytes)) = some (some (.agg #[.bool false, .slice none 0 0]), 2, 32) := by kernel_rfl
end Go.Proofs.Ytknpfopepedmmaa
