/-
  Package gates: nil gates, New, True, Fresh, Full, walked.
-/
import Derived.Test.YtkofhilgehhopaaCnfI
import Derived.DeepKeys4
import Derived.Maps.OwnSet
namespace Go.Proofs.Ytkofhilgehhopaa
open Go Go.ChangeShapes Go.WideShapes Go.ChangeAt Go.RowKit Go.Maps
set_option linter.unusedVariables false
set_option linter.unusedSimpArgs false
theorem FAtF.lt' {fp : Nat → Prop} {B : Nat} {w : World} {f : Nat} {vars : Int} {xss : List (List Int)} (h : FAtF fp B w f vars xss) : ∀ g, fp g → g < w.heap.size := by
  obtain ⟨-, -, -, -, -, -, -, -, h6⟩ := h
  exact h6
theorem New_F' (n : Int) (h0 : 0 ≤ n) (h1 : n ≤ 65536) (w : World) : Calls Try.prog 30 #[.int .i64 n] w fun e w' => e = .returned (.pointer (some ⟨w.heap.size, 0, none⟩)) ∧ FAtF (fun g => g = w.heap.size) w.heap.size w' w.heap.size n [] ∧ Below w.heap.size w w' ∧ w'.heap.size = w.heap.size + 1 := by
  go_enter Try.func30, Try.ntmps30
  go_wp2
  go_ret
  refine ⟨rfl, ⟨Nat.le_refl _, .slice none 0 0, [], Blk.new w 59 _, World.ownsRow_nil _ _ _ _, fun g hg => by simp [Value.ownBlock] at hg, Cls.nil _ _, fun g hg => ?_, fun g hg => ?_⟩, (Below.refl _ _).alloc (Nat.le_refl _) _, by simp⟩
  · rcases hg with h | h | ⟨j, hj, -⟩
    · exact h
    · simp [Value.ownBlock] at h
    · simp at hj
  · rw [hg]; simp
theorem kkey : Keyed Try.prog 62 := Keyed.of_law (deep_law_laid (P := Try.prog) (by kernel_rfl) (m := 2) (by omega) (of_decide_eq_true (by kernel_rfl)) (by kernel_rfl) (by kernel_rfl))
/-- Gates at block g: their formula at f, what was had at m. -/
structure GAt (fp : Nat → Prop) (B : Nat) (w : World) (g f m : Nat) (n : Int) (xss : List (List Int)) (D : DataW Unit) : Prop where
  ge : B ≤ g
  bk : Blk w g 55 #[.pointer (some ⟨f, 0, none⟩), .map (some m), .bool false]
  fo : FAtF fp B w f n xss
  mp : w.ownsMap Try.prog 62 (plainElem Try.prog 3) m (Maps.size D) D
  mB : B ≤ m
  gm : g ≠ m
  gf : ¬ fp g
  mf : ¬ fp m
theorem GAt.below {fp : Nat → Prop} {B : Nat} {w w' : World} {g f m : Nat} {n : Int} {xss : List (List Int)} {D : DataW Unit} (h : GAt fp B w g f m n xss D) (hb : Below w.heap.size w w') : GAt fp B w' g f m n xss D := by
  have hc := Chg.of_below (S := fun _ => False) hb
  obtain ⟨es, clock, hm, r⟩ := h.mp
  exact ⟨h.ge, h.bk.chg hc (fun h => h), h.fo.below hb, ⟨es, clock, hc.at_ hm (fun h => h), r⟩, h.mB, h.gm, h.gf, h.mf⟩
/-- The formula turns: the rest stays. -/
theorem GAt.form {fp fp' : Nat → Prop} {B : Nat} {w w' : World} {g f m : Nat} {n n' : Int} {xss xss' : List (List Int)} {D : DataW Unit} (h : GAt fp B w g f m n xss D) (hf : FAtF fp' B w' f n' xss') (hc : Chg fp w w') (hs : ∀ x, fp' x → fp x ∨ w.heap.size ≤ x) : GAt fp' B w' g f m n' xss' D := by
  have hl := h.bk.lt
  have ml := h.mp.lt
  obtain ⟨es, clock, hm, F, hk, hD⟩ := h.mp
  exact ⟨h.ge, h.bk.chg hc h.gf, hf, ⟨es, clock, hc.at_ hm h.mf, F, hk, hD⟩, h.mB, h.gm, fun e => (hs g e).elim h.gf (by omega), fun e => (hs m e).elim h.mf (by omega)⟩
theorem True_nil (w : World) : Calls Try.prog 15 #[.pointer none] w fun e w' => e = .returned (.int .i64 0) ∧ w = w' := by
  go_enter Try.func15, Try.ntmps15
  go_wp2
  go_ret
  exact ⟨rfl, rfl⟩
theorem Fresh_nil (w : World) : Calls Try.prog 16 #[.pointer none] w fun e w' => e = .returned (.int .i64 0) ∧ w = w' := by
  go_enter Try.func16, Try.ntmps16
  go_wp2
  go_ret
  exact ⟨rfl, rfl⟩
theorem Formula_nil (w : World) : Calls Try.prog 8 #[.pointer none] w fun e w' => e = .returned (.pointer none) ∧ w = w' := by
  go_enter Try.func8, Try.ntmps8
  go_wp2
  go_ret
  exact ⟨rfl, rfl⟩
theorem Full_nil (w : World) : Calls Try.prog 19 #[.pointer none] w fun e w' => e = .returned (.bool false) ∧ w = w' := by
  go_enter Try.func19, Try.ntmps19
  go_wp2
  go_ret
  exact ⟨rfl, rfl⟩
section
variable {fp : Nat → Prop} {B : Nat} {w : World} {g f m : Nat} {n : Int} {xss : List (List Int)} {D : DataW Unit}
theorem GAt.cells (h : GAt fp B w g f m n xss D) : w.cell? ⟨g, 0, none⟩ = some (.pointer (some ⟨f, 0, none⟩)) ∧ w.cell? ⟨g, 1, none⟩ = some (.map (some m)) ∧ w.cell? ⟨g, 2, none⟩ = some (.bool false) := ⟨h.bk.cell 0, h.bk.cell 1, h.bk.cell 2⟩
theorem True_ (h : GAt fp B w g f m n xss D) : Calls Try.prog 15 #[.pointer (some ⟨g, 0, none⟩)] w fun e w' => e = .returned (.int .i64 1) ∧ w = w' := by
  obtain ⟨c0, c1, c2⟩ := h.cells
  clear h
  go_enter Try.func15, Try.ntmps15
  go_wp2
  go_ret
  exact ⟨rfl, rfl⟩
theorem Full_ (h : GAt fp B w g f m n xss D) : Calls Try.prog 19 #[.pointer (some ⟨g, 0, none⟩)] w fun e w' => e = .returned (.bool false) ∧ w = w' := by
  obtain ⟨c0, c1, c2⟩ := h.cells
  clear h
  go_enter Try.func19, Try.ntmps19
  go_wp2
  go_ret
  exact ⟨rfl, rfl⟩
/-- What a call leaves of gates: none but their blocks have turned. -/
def GSt (fp : Nat → Prop) (B : Nat) (w : World) (g f m : Nat) (n : Int) (xss : List (List Int)) (D : DataW Unit) (w' : World) : Prop :=
  ∃ fp', GAt fp' B w' g f m n xss D ∧ Chg (fun x => fp x ∨ x = m) w w' ∧ (∀ x, fp' x → fp x ∨ w.heap.size ≤ x) ∧ Below B w w'
theorem GSt.of (h : GAt fp B w g f m n xss D) {w' : World} (hb : Below w.heap.size w w') (hB : B ≤ w.heap.size) : GSt fp B w g f m n xss D w' :=
  ⟨fp, h.below hb, (Chg.of_below (S := fun _ => False) hb).mono (fun _ e => e.elim), fun x hx => .inl hx, hb.mono hB⟩
theorem GSt.trans {n' : Int} {xss' : List (List Int)} {D' : DataW Unit} {fp1 : Nat → Prop} {w1 w2 : World} (h1 : Chg (fun x => fp x ∨ x = m) w w1) (hs : ∀ x, fp1 x → fp x ∨ w.heap.size ≤ x) (hb : Below B w w1) (h2 : GSt fp1 B w1 g f m n' xss' D' w2) : GSt fp B w g f m n' xss' D' w2 := by
  obtain ⟨fp2, q1, q2, q3, q4⟩ := h2
  refine ⟨fp2, q1, h1.trans q2 (fun i hi => ?_), fun x hx => ?_, hb.trans q4⟩
  · rcases hi with hi | hi
    · rcases hs i hi with e | e
      · exact .inl (.inl e)
      · exact .inr e
    · exact .inl (.inr hi)
  · rcases q3 x hx with e | e
    · exact hs x e
    · exact .inr (Nat.le_trans h1.size e)
theorem Fresh_ (h : GAt fp B w g f m n xss D) (hn0 : 0 ≤ n) (hn : n < 65536) : Calls Try.prog 16 #[.pointer (some ⟨g, 0, none⟩)] w fun e w' => e = .returned (.int .i64 (n + 1)) ∧ GSt fp B w g f m (n + 1) xss D w' := by
  obtain ⟨c0, c1, c2⟩ := h.cells
  have HV := Lib.hid (Vars_ h.fo.toF)
  have hg := Grow_ h.fo (n + 1) (by omega)
  have hm : max n (n + 1) = n + 1 := by rw [Int.max_def]; split <;> omega
  rw [hm] at hg
  have HG := Lib.hid hg
  have H := Lib.hid h
  clear hg h c1 hm
  go_enter Try.func16, Try.ntmps16
  go_wp2_with ((go_at_call 9; refine (HV.out).mono ?_; rintro e w' ⟨rfl, rfl⟩))
  refine HG.out.mono ?_
  rintro e w1 ⟨rfl, fp', hF, hc, hs, hb⟩
  have HP : Hid (GSt fp B w g f m (n + 1) xss D w1) := Lib.hid ⟨fp', H.out.form hF hc hs, hc.mono (fun i hi => .inl hi), hs, hb⟩
  clear hF hc hs hb c0 c2
  go_wp2
  go_ret
  exact ⟨rfl, HP.out⟩
theorem one_ints (w : World) (x : Int) : Ints (w.alloc (.cells #[.int .i64 x] 3)) (.slice (some ⟨w.heap.size, 0, none⟩) 1 1) [x] := by
  refine ⟨_, _, rfl, by simp, by simp, by simp [maxLen], .inr ⟨w.heap.size, 0, rfl, fun j hj => ?_⟩⟩
  have hB := Blk.new w 3 #[.int .i64 x]
  simp at hj
  subst hj
  exact hB.cell 0
end
set_option maxHeartbeats 2000000 in
set_option maxRecDepth 100000 in
/-- New gates: one variable, which is true. -/
theorem gates_New (w : World) : Calls Try.prog 7 #[] w fun e w' => ∃ g f m fp, e = .returned (.pointer (some ⟨g, 0, none⟩)) ∧ GAt fp w.heap.size w' g f m 1 [[1]] (.map []) ∧ Below w.heap.size w w' := by
  have hmm := @run_makeMap Try.prog
  have HN := Lib.hid (New_F' 1 (by decide) (by decide) w)
  obtain ⟨B, hB⟩ : ∃ B, B = w.heap.size := ⟨_, rfl⟩
  rw [← hB] at HN ⊢
  have HBB := Lib.hid hB
  clear hB
  go_enter Try.func7, Try.ntmps7
  go_wp2_with fail
  refine HN.out.mono ?_
  rintro e w1 ⟨rfl, hF, hb, hsz⟩
  have h1 : Below w1.heap.size w1 (w1.alloc (.map #[] 0)) := (Below.refl _ _).alloc (Nat.le_refl _) _
  have h2 : Below w1.heap.size w1 ((w1.alloc (.map #[] 0)).alloc (.cells #[.pointer (some ⟨B, 0, none⟩), .map (some w1.heap.size), .bool false] 55)) := h1.alloc h1.size _
  have h3 := h2.alloc h2.size (.cells #[.int .i64 1] 3)
  obtain ⟨w2, hw2⟩ : ∃ w2, w2 = (w1.alloc (.map #[] 0)).alloc (.cells #[.pointer (some ⟨B, 0, none⟩), .map (some w1.heap.size), .bool false] 55) := ⟨_, rfl⟩
  have s2 : w2.heap.size = w1.heap.size + 2 := by rw [hw2]; simp
  have hG0 : GAt (fun g => g = B) B w2 (w1.heap.size + 1) B w1.heap.size 1 [] (.map []) := by
    have hb1 := hb.size
    have hfB : B < w1.heap.size := hF.lt' _ rfl
    refine ⟨by omega, ?_, by rw [hw2]; exact hF.below h2, ?_, by omega, by omega, by omega, by omega⟩
    · have := Blk.new (w1.alloc (.map #[] 0)) 55 #[.pointer (some ⟨B, 0, none⟩), .map (some w1.heap.size), .bool false]
      rw [hw2]
      simpa using this
    · have hm := (World.ownsMap_made w1 Try.prog 62 (plainElem (H := Unit) Try.prog 3)).alloc (.cells #[.pointer (some ⟨B, 0, none⟩), .map (some w1.heap.size), .bool false] 55)
      rw [hw2]
      exact hm.mono (Nat.zero_le _)
  have hbw2 : Below w1.heap.size w1 w2 := by rw [hw2]; exact h2
  have hG1 := hG0.below ((Below.refl _ _).alloc (Nat.le_refl _) (.cells #[.int .i64 1] 3))
  have ha := Add_yes hG1.fo (by have := hb.size; simp; omega) (by decide) (by decide) (one_ints w2 1) (by kernel_rfl : rightB [1] 1 = true) (by simp) (by simp)
  rw [show w2.heap.size = w1.heap.size + 1 + 1 by omega] at ha
  have HA := Lib.hid ha
  have HG := Lib.hid hG1
  have hB2 : Below B w w2 := hb.trans (hbw2.mono (by rw [HBB.out]; exact hb.size))
  have HB : Hid (Below B w (w2.alloc (.cells #[.int .i64 1] 3))) := Lib.hid (hB2.alloc (by have := hB2.size; have := HBB.out; omega) _)
  have HW2 := Lib.hid hw2
  clear hF hb hsz h1 h2 h3 hG0 hbw2 hG1 hB2 ha hw2 s2
  go_wp2_with fail
  rw [← HW2.out]
  refine HA.out.mono ?_
  rintro e w3 ⟨rfl, fp', hF, hc, hs, hb3⟩
  have HP : Hid (GAt fp' B w3 (w1.heap.size + 1) B w1.heap.size 1 [[1]] (.map []) ∧ Below B w w3) := Lib.hid ⟨HG.out.form hF hc hs, HB.out.trans hb3⟩
  clear hF hc hs hb3
  go_wp2
  go_ret
  exact ⟨_, _, _, _, rfl, HP.out⟩
end Go.Proofs.Ytkofhilgehhopaa
