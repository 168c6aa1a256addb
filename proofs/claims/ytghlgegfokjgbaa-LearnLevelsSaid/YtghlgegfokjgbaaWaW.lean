/-
  The laws of chapter 22: light, added.
-/
import Derived.Test.YtghlgegfokjgbaaWaQ
import Derived.Test.YtghlgegfokjgbaaWaV
import Derived.Deep.LoopGhost
namespace Go.Proofs.Ytghlgegfokjgbaa
open Go.ChangeShapes Go.WideShapes Go.ChangeAt Go.RowKit
set_option linter.unusedVariables false
set_option linter.unusedSimpArgs false
attribute [local go_sem ↓] Go.wp_at_zero Go.wp_at_succ
theorem nodup_of_norm : ∀ (n : Nat) (l : List Int), l.length = n → (normC l).length = l.length → l.Nodup
  | 0, l, hl, _ => by rw [List.eq_nil_of_length_eq_zero hl]; exact List.Pairwise.nil
  | n + 1, l, hl, h => by
    have hne : l ≠ [] := fun e => by rw [e] at hl; simp at hl
    obtain ⟨m, x, rfl⟩ : ∃ m x, l = m ++ [x] := ⟨l.dropLast, l.getLast hne, (List.dropLast_concat_getLast hne).symm⟩
    rw [List.length_append] at hl h
    simp only [List.length_singleton] at hl h
    rw [normC_snoc] at h
    have h1 := length_insK x (normC m)
    have h2 := length_normC m
    have h3 : x ∉ normC m := fun hx => by rw [insK_old x _ (strict_normC m) hx] at h; omega
    have h4 := nodup_of_norm n m (by omega) (by omega)
    rw [List.nodup_append]
    refine ⟨h4, by simp, fun a ha b hb e => ?_⟩
    rw [List.mem_singleton.1 hb] at e
    rw [e] at ha
    exact h3 ((mem_normC m x).2 ha)
theorem c9_of_fin {c : List Int} (h : fin22 c 9 = true) (hn : c.length ≤ 30) : C9 c := by
  unfold fin22 at h
  simp only [Bool.and_eq_true, decide_eq_true_eq] at h
  obtain ⟨⟨⟨h1, h2⟩, h3⟩, h4⟩ := h
  refine ⟨fun e => by rw [e] at h1; simp at h1, fun x hx => ?_, nodup_of_norm _ c rfl h4, fun x hx hnx => ?_, hn⟩
  · unfold rightB at h2
    rw [List.all_eq_true] at h2
    have := of_decide_eq_true (h2 x hx)
    unfold lit9; omega
  · unfold fineC at h3
    rw [List.all_eq_true] at h3
    have := h3 x hx
    simp at this
    exact this hnx
/-- Lists of the law's own: a row of slices that came in. -/
def LS (B : Nat) (w : World) (r : Nat → Nat) (v : Value) (xss : List (List Int)) : Prop :=
  ∃ us, Row w 23 1 v xss.length us ∧ (∀ g, v.ownBlock = some g → B ≤ g ∧ r g = 0) ∧ us.length = xss.length ∧ ∀ j, j < xss.length → Ints w (us.getD j undef) (xss.getD j []) ∧ ∀ g, (us.getD j undef).ownBlock = some g → g < B
theorem LS.nil (B : Nat) (w : World) (r : Nat → Nat) : LS B w r (.slice none 0 0) [] := ⟨[], World.ownsRow_nil _ _ _ _, fun g hg => by simp [Value.ownBlock] at hg, rfl, fun j hj => by simp at hj⟩
theorem LS.chg {B : Nat} {w w' : World} {r r' : Nat → Nat} {v : Value} {xss : List (List Int)} {T : Nat → Prop} (h : LS B w r v xss) (hc : Chg T w w') (hT : ∀ b, T b → B ≤ b ∧ r b ≠ 0) (hr : ∀ b, b < w.heap.size → r' b = r b) : LS B w' r' v xss := by
  obtain ⟨us, h1, h2, h3, h4⟩ := h
  refine ⟨us, h1.chg hc (fun g hg hg' => (hT g hg').2 (h2 g hg).2), fun g hg => ⟨(h2 g hg).1, by rw [hr g (h1.lt g hg)]; exact (h2 g hg).2⟩, h3, fun j hj => ⟨(h4 j hj).1.chg hc (fun g hg hg' => by have := (hT g hg').1; have := (h4 j hj).2 g hg; omega), (h4 j hj).2⟩⟩
theorem LS.below {B : Nat} {w w' : World} {r : Nat → Nat} {v : Value} {xss : List (List Int)} (h : LS B w r v xss) (hb : Below w.heap.size w w') : LS B w' r v xss := h.chg (T := fun _ => False) (Chg.of_below hb) (fun _ h => h.elim) (fun _ _ => rfl)
theorem LS.intsS {B : Nat} {w : World} {r : Nat → Nat} {v : Value} {xss : List (List Int)} (h : LS B w r v xss) : IntsS w v xss := by
  obtain ⟨us, h1, -, h3, h4⟩ := h
  rcases h1.form with ⟨rfl, h0, -⟩ | ⟨g, cap, rfl, q1, q2, -, hx⟩
  · obtain rfl := List.eq_nil_of_length_eq_zero h0
    exact intsS_nil w
  · refine ⟨_, cap, rfl, q1, q2, .inr ⟨g, 0, rfl, fun j hj => ⟨us.getD j undef, ?_, (h4 j hj).1⟩⟩⟩
    rw [Nat.zero_add, (hx j (by rw [h3]; exact hj)).1]
theorem LS.app {B : Nat} {w w1 : World} {r : Nat → Nat} {v v' u : Value} {xss : List (List Int)} {c : List Int} {us : List Value} (h1 : Row w 23 1 v xss.length us) (h2 : ∀ g, v.ownBlock = some g → B ≤ g ∧ r g = 0) (h3 : us.length = xss.length) (h4 : ∀ j, j < xss.length → Ints w (us.getD j undef) (xss.getD j []) ∧ ∀ g, (us.getD j undef).ownBlock = some g → g < B)
    (hB : B ≤ w.heap.size) (hi : ∀ b, w.heap.size ≤ b → r b = 0) (hu : Ints w u c) (hg : ∀ g, u.ownBlock = some g → g < B) (hp : AppPost (w.alloc (.cells #[u] 23)) 23 1 v (xss.length + 1) (us ++ [u]) v' w1) : LS B w1 r v' (xss ++ [c]) ∧ Chg (fun b => B ≤ b ∧ r b = 0) w w1 := by
  obtain ⟨p1, p2, p3⟩ := hp
  have hA : Below w.heap.size w (w.alloc (.cells #[u] 23)) := (Below.refl _ _).alloc (Nat.le_refl _) _
  have hch : Chg (fun b => B ≤ b ∧ r b = 0) w w1 := ((Chg.refl _ w).alloc _).trans p2 (fun g hg => .inl (h2 g hg))
  have keep : ∀ {x : Value} {d : List Int}, Ints w x d → (∀ g, x.ownBlock = some g → g < B) → Ints w1 x d := fun hx hg => hx.chg hch (fun g hg' e => by have := hg g hg'; have := e.1; omega)
  refine ⟨⟨us ++ [u], by simpa using p1, fun g hg => ?_, by simp [h3], fun j hj => ?_⟩, hch⟩
  · rcases p3 with e | e
    · rw [e] at hg; exact h2 g hg
    · rw [e] at hg; injection hg with hg; simp at hg; exact ⟨by omega, hi g (by omega)⟩
  · simp only [List.length_append, List.length_singleton] at hj
    rcases Nat.lt_or_ge j xss.length with g | g
    · rw [getD_snoc_lt _ _ _ g, getD_snoc_lt _ _ _ (by rw [h3]; exact g)]
      exact ⟨keep (h4 j g).1 (h4 j g).2, (h4 j g).2⟩
    · obtain rfl : j = xss.length := by omega
      rw [getD_snoc_eq]
      have : (us ++ [u]).getD xss.length undef = u := by rw [← h3]; exact getD_snoc_eq _ _ _
      rw [this]
      exact ⟨keep hu hg, hg⟩
def lightB (xss : List (List Int)) : Bool := decide (xss.length ≤ 80) && xss.all fun c => decide (c.length ≤ 30) && clauseB c
theorem allS_no {l : List (List Int)} {p : List Int → Bool} {k : Nat} (hk : k < l.length) (h : p (l.getD k []) = false) : l.all p = false := by
  rw [List.all_eq_false]
  exact ⟨_, List.getElem_mem hk, by simpa [List.getD, hk] using h⟩
theorem allS_yes {l : List (List Int)} {p : List Int → Bool} {n : Nat} (hn : n = l.length) (h : ∀ j, j < n → p (l.getD j []) = true) : l.all p = true := by
  rw [List.all_eq_true]
  intro x hx
  obtain ⟨j, hj, rfl⟩ := List.getElem_of_mem hx
  have := h j (by omega)
  simpa [List.getD, hj] using this
theorem ints_form {w : World} {v : Value} {xs : List Int} (h : Ints w v xs) : ∃ a cap, v = .slice a xs.length cap := by obtain ⟨a, cap, rfl, -⟩ := h; exact ⟨a, cap, rfl⟩
end Go.Proofs.Ytghlgegfokjgbaa
/-
  The laws of chapter 22: added.
-/
namespace Go.Proofs.Ytghlgegfokjgbaa
open Go.ChangeShapes Go.WideShapes Go.ChangeAt Go.RowKit
set_option linter.unusedVariables false
set_option linter.unusedSimpArgs false
attribute [local go_sem ↓] Go.wp_at_zero Go.wp_at_succ
def fines (xss : List (List Int)) : List (List Int) := xss.filter fun c => fin22 c 9
theorem fines_len (xss : List (List Int)) : (fines xss).length ≤ xss.length := List.length_filter_le _ _
theorem light_at {xss : List (List Int)} (h : lightB xss = true) {c : List Int} (hc : c ∈ xss) : c.length ≤ 30 ∧ ClauseL c := by
  unfold lightB at h
  rw [Bool.and_eq_true, List.all_eq_true] at h
  have := h.2 c hc
  rw [Bool.and_eq_true] at this
  exact ⟨of_decide_eq_true this.1, of_decide_eq_true this.2⟩
theorem light_n {xss : List (List Int)} (h : lightB xss = true) : xss.length ≤ 80 := by
  unfold lightB at h
  rw [Bool.and_eq_true] at h
  exact of_decide_eq_true h.1
/-- A watch in a law: what lay there when the law began lies below B. -/
structure LW (B : Nat) (w0 w : World) (r : Nat → Nat) (wb t : Nat) (S : WS) : Prop where
  at_ : WAt B w r wb t S
  old : Below B w0 w
  hB : B ≤ w.heap.size
theorem WAt.hi {B : Nat} {w : World} {r : Nat → Nat} {wb t : Nat} {S : WS} (h : WAt B w r wb t S) : ∀ b, w.heap.size ≤ b → r b = 0 := by obtain ⟨_, _, _, _, _, h⟩ := h; exact h.hi
theorem WAt.lo {B : Nat} {w : World} {r : Nat → Nat} {wb t : Nat} {S : WS} (h : WAt B w r wb t S) : ∀ b, b < B → r b = 0 := by obtain ⟨_, _, _, _, _, h⟩ := h; exact h.lo
theorem LW.below {B : Nat} {w0 w w' : World} {r : Nat → Nat} {wb t : Nat} {S : WS} (h : LW B w0 w r wb t S) (hb : Below w.heap.size w w') : LW B w0 w' r wb t S :=
  ⟨h.at_.below hb, h.old.trans (hb.mono h.hB), Nat.le_trans h.hB hb.size⟩
theorem LW.post {B : Nat} {w0 w w' : World} {r : Nat → Nat} {wb t : Nat} {S S' : WS} (h : LW B w0 w r wb t S) (hp : WPost B w r wb t S' w') : ∃ r', LW B w0 w' r' wb t S' ∧ Chg (fun b => B ≤ b ∧ r b ≠ 0) w w' ∧ ∀ b, b < w.heap.size → r' b = r b := by
  obtain ⟨r', h1, h2, h3⟩ := hp
  have hc : Chg (fun b => B ≤ b ∧ r b ≠ 0) w w' := h2.mono fun b hb => ⟨Nat.le_of_not_lt fun hlt => hb (h.at_.lo b hlt), hb⟩
  exact ⟨r', ⟨h1, h.old.trans (hc.below h.hB fun b hb => hb.1), Nat.le_trans h.hB hc.size⟩, hc, h3⟩
/-- A step of the law's own, that turns none of the watch's blocks. -/
theorem LW.own {B : Nat} {w0 w w' : World} {r : Nat → Nat} {wb t : Nat} {S : WS} (h : LW B w0 w r wb t S) (hc : Chg (fun b => B ≤ b ∧ r b = 0) w w') : LW B w0 w' r wb t S :=
  ⟨h.at_.chg hc (fun b hb e => hb e.2), h.old.trans (hc.below h.hB fun b hb => hb.1), Nat.le_trans h.hB hc.size⟩
theorem fines_snoc {xss : List (List Int)} {k : Nat} (hk : k < xss.length) : fines (xss.take (k + 1)) = if fin22 (xss.getD k []) 9 then fines (xss.take k) ++ [xss.getD k []] else fines (xss.take k) := by
  unfold fines
  rw [List.take_succ_eq_append_getElem hk, List.filter_append]
  have e : xss.getD k [] = xss[k] := by simp [List.getD, hk]
  rw [e]
  by_cases h : fin22 xss[k] 9 = true
  · rw [if_pos h]; simp [h]
  · rw [if_neg h]; simp [h]
def AddedQ (B : Nat) (w0 : World) (wb t : Nat) (og : List (List Int)) (e : Ending) (w' : World) : Prop :=
  ∃ r S v, e = .returned (.tuple #[v, .bool true]) ∧ AInv og 0 S ∧ LW B w0 w' r wb t S ∧ LS B w' r v og
end Go.Proofs.Ytghlgegfokjgbaa
