/-
  Slices of slices of numbers: such as are read, and rows of the call's own that hold them.
-/
import Derived.Test.YtkofhilgehhopaaIntsB
namespace Go.Proofs.Ytkofhilgehhopaa
open Go.ChangeShapes Go.WideShapes Go.ChangeAt Go.RowKit
set_option linter.unusedVariables false
theorem cellNew (w : World) (u : Value) (e : TypeId) (k : Nat) (hk : k = w.heap.size) : ∀ (j : Nat) (x : Value), [u][j]? = some x → (w.alloc (.cells #[u] e)).cell? ⟨k, 0 + j, none⟩ = some x := by
  intro j x hj
  subst hk
  match j, hj with
  | 0, hj => simp at hj; subst hj; exact (Blk.new w e #[u]).cell 0
theorem oneCell1 {u : Value} (h : u.oneCell' = true) : ∀ x ∈ [u], x.oneCell' = true := fun x hx => by simp at hx; subst hx; exact h
theorem infoL : (Try.prog.info? 32).map (fun i => (i.zero, i.size, i.bytes)) = some (some (.slice none 0 0), 1, 24) := by kernel_rfl
/-- The slice v reads as the lists xss. -/
def IntsS (w : World) (v : Value) (xss : List (List Int)) : Prop :=
  ∃ a cap, v = .slice a xss.length cap ∧ xss.length ≤ cap ∧ cap ≤ maxLen ∧ (xss = [] ∨ ∃ b off, a = some ⟨b, off, none⟩ ∧ ∀ j, j < xss.length → ∃ u, w.cell? ⟨b, off + j, none⟩ = some u ∧ Ints w u (xss.getD j []))
theorem IntsS.below {w w' : World} {v : Value} {xss : List (List Int)} (h : IntsS w v xss) (hb : Below w.heap.size w w') : IntsS w' v xss := by
  obtain ⟨a, cap, rfl, h1, h2, h3⟩ := h
  refine ⟨a, cap, rfl, h1, h2, ?_⟩
  rcases h3 with h3 | ⟨b, off, rfl, hc⟩
  · exact .inl h3
  · refine .inr ⟨b, off, rfl, fun j hj => ?_⟩
    obtain ⟨u, hu, hi⟩ := hc j hj
    exact ⟨u, (hb.cell (p := ⟨b, off + j, none⟩) (World.block_lt_of_cell? w _ hu)).trans hu, hi.below hb⟩
theorem IntsS.at_ {w : World} {v : Value} {xss : List (List Int)} (h : IntsS w v xss) {j : Nat} (hj : j < xss.length) :
    ∃ b off cap u, v = .slice (some ⟨b, off, none⟩) xss.length cap ∧ w.cell? ⟨b, off + j, none⟩ = some u ∧ Ints w u (xss.getD j []) := by
  obtain ⟨a, cap, rfl, -, -, h3⟩ := h
  have hne : xss ≠ [] := fun e => by rw [e] at hj; simp at hj
  obtain ⟨b, off, rfl, hc⟩ := h3.resolve_left hne
  obtain ⟨u, hu, hi⟩ := hc j hj
  exact ⟨b, off, cap, u, rfl, hu, hi⟩
theorem IntsS.form {w : World} {v : Value} {xss : List (List Int)} (h : IntsS w v xss) : ∃ a cap, v = .slice a xss.length cap ∧ xss.length ≤ cap ∧ cap ≤ maxLen := by
  obtain ⟨a, cap, rfl, h1, h2, -⟩ := h
  exact ⟨a, cap, rfl, h1, h2⟩
theorem intsS_nil (w : World) : IntsS w (.slice none 0 0) [] := ⟨none, 0, rfl, by simp, by simp, .inl rfl⟩
/-- The cells us of a row read as the lists xss; none of them lies in the blocks S. -/
def Cls (w : World) (S : Nat → Prop) (us : List Value) (xss : List (List Int)) : Prop :=
  us.length = xss.length ∧ ∀ j, j < xss.length → Ints w (us.getD j undef) (xss.getD j []) ∧ ∀ g, (us.getD j undef).ownBlock = some g → ¬ S g ∧ g < w.heap.size
theorem Cls.chg {w w' : World} {S S' : Nat → Prop} {us : List Value} {xss : List (List Int)} (h : Cls w S us xss) (hc : Chg S' w w') (hs : ∀ g, g < w.heap.size → S' g → S g) : Cls w' S us xss :=
  ⟨h.1, fun j hj => ⟨(h.2 j hj).1.chg hc (fun g hg hS => ((h.2 j hj).2 g hg).1 (hs g ((h.2 j hj).2 g hg).2 hS)), fun g hg => ⟨((h.2 j hj).2 g hg).1, Nat.lt_of_lt_of_le ((h.2 j hj).2 g hg).2 hc.size⟩⟩⟩
theorem Cls.below {w w' : World} {S : Nat → Prop} {us : List Value} {xss : List (List Int)} (h : Cls w S us xss) (hb : Below w.heap.size w w') : Cls w' S us xss :=
  h.chg (S' := fun _ => False) (Chg.of_below hb) (fun _ _ h => h.elim)
theorem Cls.mono {w : World} {S S' : Nat → Prop} {us : List Value} {xss : List (List Int)} (h : Cls w S us xss) (hs : ∀ g, g < w.heap.size → S' g → S g) : Cls w S' us xss :=
  ⟨h.1, fun j hj => ⟨(h.2 j hj).1, fun g hg => ⟨fun h' => ((h.2 j hj).2 g hg).1 (hs g ((h.2 j hj).2 g hg).2 h'), ((h.2 j hj).2 g hg).2⟩⟩⟩
theorem getD_snoc_lt {α : Type} (xs : List α) (x d : α) {j : Nat} (hj : j < xs.length) : (xs ++ [x]).getD j d = xs.getD j d := by
  simp [List.getD, List.getElem?_append_left hj]
theorem getD_snoc_eq {α : Type} (xs : List α) (x d : α) : (xs ++ [x]).getD xs.length d = x := by
  simp [List.getD]
theorem Cls.snoc {w : World} {S : Nat → Prop} {us : List Value} {xss : List (List Int)} (h : Cls w S us xss) {u : Value} {xs : List Int} (hi : Ints w u xs) (hu : ∀ g, u.ownBlock = some g → ¬ S g ∧ g < w.heap.size) : Cls w S (us ++ [u]) (xss ++ [xs]) := by
  refine ⟨by simp [h.1], fun j hj => ?_⟩
  simp at hj
  rcases Nat.lt_or_ge j xss.length with g | g
  · rw [getD_snoc_lt _ _ _ g, getD_snoc_lt _ _ _ (by rw [h.1]; exact g)]
    exact h.2 j g
  · obtain rfl : j = xss.length := by omega
    rw [getD_snoc_eq]
    have : (us ++ [u]).getD xss.length undef = u := by rw [← h.1]; exact getD_snoc_eq _ _ _
    rw [this]
    exact ⟨hi, hu⟩
theorem Cls.nil (w : World) (S : Nat → Prop) : Cls w S [] [] := ⟨rfl, fun j hj => by simp at hj⟩
theorem Row.intsS {w : World} {S : Nat → Prop} {v : Value} {us : List Value} {xss : List (List Int)} (h : Row w 32 1 v xss.length us) (hc : Cls w S us xss) : IntsS w v xss := by
  rcases h.form with ⟨rfl, h0, -⟩ | ⟨g, cap, rfl, h1, h2, -, hx⟩
  · obtain rfl := List.eq_nil_of_length_eq_zero h0
    exact intsS_nil w
  · refine ⟨_, cap, rfl, h1, h2, .inr ⟨g, 0, rfl, fun j hj => ⟨us.getD j undef, ?_, (hc.2 j hj).1⟩⟩⟩
    rw [Nat.zero_add, (hx j (by rw [hc.1]; exact hj)).1]
theorem ints_lt {w : World} {v : Value} {xs : List Int} (h : Ints w v xs) (hne : xs ≠ []) : ∀ g, v.ownBlock = some g → g < w.heap.size := by
  obtain ⟨a, cap, rfl, -, -, -, h3⟩ := h
  obtain ⟨b, off, rfl, hc⟩ := h3.resolve_left hne
  intro g hg
  simp [Value.ownBlock] at hg
  subst hg
  exact World.block_lt_of_cell? w _ (hc 0 (by cases xs with | nil => exact absurd rfl hne | cons => simp))
end Go.Proofs.Ytkofhilgehhopaa
