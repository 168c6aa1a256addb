/-
  Package rup: what a nil checker says; the chapter's example, plainly.
-/
import Derived.Test.YtknpfopepedmmaaRvG
import Derived.Test.YtknpfopepedmmaaRvH
namespace Go.Proofs.Ytknpfopepedmmaa
open Go Go.ChangeShapes Go.WideShapes Go.ChangeAt Go.RowKit Go.Maps
set_option linter.unusedVariables false
set_option linter.unusedSimpArgs false
set_option maxHeartbeats 1000000 in
theorem add_nil (u : Value) (w : World) : Calls Try.prog 14 #[.pointer none, u] w fun e w' => e = .returned (.int .i64 (-1)) ∧ w' = w := by
  go_enter Try.func14, Try.ntmps14
  go_wp2
  go_ret
  exact ⟨rfl, rfl⟩
set_option maxHeartbeats 1000000 in
theorem len_nil (w : World) : Calls Try.prog 21 #[.pointer none] w fun e w' => e = .returned (.int .i64 0) ∧ w' = w := by
  go_enter Try.func21, Try.ntmps21
  go_wp2
  go_ret
  exact ⟨rfl, rfl⟩
set_option maxHeartbeats 1000000 in
theorem why_nil (u : Value) (w : World) : Calls Try.prog 17 #[.pointer none, u] w fun e w' => e = .returned (.tuple #[.slice none 0 0, .bool false]) ∧ w' = w := by
  go_enter_defers Try.func17, Try.ntmps17
  go_wp2
  exact ⟨_, results_tmp2 rfl _ _ _, rfl, rfl⟩
set_option maxHeartbeats 1000000 in
theorem remove_nil (u : Value) (w : World) : Calls Try.prog 15 #[.pointer none, u] w fun e w' => e = .returned (.tuple #[.int .i64 (-1), .bool false]) ∧ Below w.heap.size w w' := by
  have HB : Hid (∀ c, Below w.heap.size w (w.alloc c)) := Lib.hid fun c => (Below.refl _ w).alloc (Nat.le_refl _) c
  go_enter Try.func15, Try.ntmps15
  go_wp2
  go_ret2
  exact ⟨rfl, HB.out _⟩
/-! ### the example -/
def exS : RS := (RS0.add (normC [1, 2])).add (normC [-1, 2])
theorem set0 : Set_ RS0 0 := ⟨⟨Con.nil, rfl, fun i hi => by simp [RS0] at hi, Nat.le_refl _, fun i hi => by simp [RS0] at hi⟩, rfl, fun _ i hi => by omega, fun hb => absurd rfl hb⟩
theorem nodup_normC (c : List Int) : (normC c).Nodup := (strict_normC c).imp fun {a b} h e => by rw [e] at h; omega
theorem lits_normC {c : List Int} (h : Lit30s c) : Lit30s (normC c) := fun x hx => h x ((mem_normC c x).1 hx)
theorem lits_of (c : List Int) (h : c.all litB = true) : Lit30s c := fun x hx => litB_iff.1 (List.all_eq_true.1 h x hx)
theorem exS_law : Set_ exS 2 ∧ exS.cl = [normC [1, 2], normC [-1, 2]] ∧ exS.on = [true, true] := by
  obtain ⟨a1, a2, a3⟩ := add_law (S := RS0) set0 (lits_normC (lits_of [1, 2] rfl)) (nodup_normC [1, 2])
  have e1 : (RS0.add (normC [1, 2])).cl.length = 1 := by rw [a2]; rfl
  have a1 : Set_ (RS0.add (normC [1, 2])) (RS0.add (normC [1, 2])).cl.length := by rw [e1]; exact a1
  obtain ⟨b1, b2, b3⟩ := add_law a1 (lits_normC (lits_of [-1, 2] rfl)) (nodup_normC [-1, 2])
  rw [e1] at b1
  exact ⟨b1, by show ((RS0.add (normC [1, 2])).add (normC [-1, 2])).cl = _; rw [b2, a2]; rfl, by show ((RS0.add (normC [1, 2])).add (normC [-1, 2])).on = _; rw [b3, a3]; rfl⟩
theorem exS_c : exS.c 0 = [1, 2] ∧ exS.c 1 = [-1, 2] := by
  obtain ⟨-, h, -⟩ := exS_law
  unfold RS.c
  rw [h]
  exact ⟨by decide, by decide⟩
theorem exS_on : exS.onA 0 = true ∧ exS.onA 1 = true := by
  obtain ⟨-, -, h⟩ := exS_law
  unfold RS.onA
  rw [h]
  exact ⟨rfl, rfl⟩
theorem exS_len : exS.cl.length = 2 := by rw [exS_law.2.1]; rfl
theorem exS_live : exS.live.length = 2 := by
  obtain ⟨h0, h1⟩ := exS_on
  have h : exS.on.length = 2 := by rw [exS_law.2.2]; rfl
  unfold RS.live
  rw [h]
  show (([0, 1] : List Nat).filter exS.onA).length = 2
  rw [List.filter_cons, if_pos h0, List.filter_cons, if_pos h1]; rfl
theorem con_of (T : List Int) (h : T.all litB = true) (hn : T.Nodup) (hc : (T.all fun x => !T.contains (-x)) = true) : Con T :=
  ⟨lits_of T h, hn, fun x hx hn' => by
    have := List.all_eq_true.1 hc x hx
    simp at this
    exact this hn'⟩
theorem exS_two : ¬ OpenS exS [2] := fun ⟨T, t1, t2, t3⟩ => by
  have h2 : (-2 : Int) ∈ T := t2 2 (by simp)
  have c0 := t3 0 (by rw [exS_len]; omega) exS_on.1
  have c1 := t3 1 (by rw [exS_len]; omega) exS_on.2
  rw [exS_c.1] at c0
  rw [exS_c.2] at c1
  have h1 : (1 : Int) ∈ T := told_core (by decide) t1 c0 (by simp) (fun y hy hne => by
    simp at hy
    rcases hy with e | e
    · exact absurd e hne
    · rw [e]; exact h2)
  exact not_false t1 c1 (fun y hy => by
    simp at hy
    rcases hy with e | e
    · rw [e]; exact h1
    · rw [e]; exact h2)
theorem exS_one : OpenS exS [1] := by
  refine ⟨[-1, 2], con_of _ (by decide) (by decide) (by decide), fun y hy => by simp at hy; rw [hy]; simp, fun i hi _ => ?_⟩
  rw [exS_len] at hi
  have : i = 0 ∨ i = 1 := by omega
  rcases this with e | e
  · rw [e, exS_c.1]; exact ⟨by decide, by decide⟩
  · rw [e, exS_c.2]; exact ⟨by decide, by decide⟩
theorem exS_why {is : Bool} {R : List Nat} (h : WhyR exS [2] is R) : is = true ∧ R = [0, 1] := by
  have hi : is = true := h.yes.2 exS_two
  refine ⟨hi, ?_⟩
  have hin : ∀ j ∈ R, j = 0 ∨ j = 1 := fun j hj => by
    have := (h.on j hj).1
    rw [exS_len] at this; omega
  have h0 : 0 ∈ R := Decidable.byContradiction fun hn => by
    refine h.core hi [-1, -2] (con_of _ (by decide) (by decide) (by decide)) (fun y hy => by simp at hy; rw [hy]; simp) (fun j hj => ?_)
    rcases hin j hj with e | e
    · rw [e] at hj; exact absurd hj hn
    · rw [e, exS_c.2]; exact ⟨by decide, by decide⟩
  have h1 : 1 ∈ R := Decidable.byContradiction fun hn => by
    refine h.core hi [1, -2] (con_of _ (by decide) (by decide) (by decide)) (fun y hy => by simp at hy; rw [hy]; simp) (fun j hj => ?_)
    rcases hin j hj with e | e
    · rw [e, exS_c.1]; exact ⟨by decide, by decide⟩
    · rw [e] at hj; exact absurd hj hn
  have hu := h.up
  match R, hu, hin, h0, h1 with
  | [], _, _, h0, _ => simp at h0
  | [a], _, _, h0, h1 => simp at h0 h1; omega
  | [a, b], hu, hin, h0, h1 =>
    have ha := hin a (by simp)
    have hb := hin b (by simp)
    simp at hu
    have h9 : a = 0 ∧ b = 1 := by omega
    rw [h9.1, h9.2]
  | a :: b :: c :: r, hu, hin, _, _ =>
    have ha := hin a (by simp)
    have hb := hin b (by simp)
    have hc := hin c (by simp)
    simp at hu
    obtain ⟨⟨u1, u2, -⟩, ⟨u3, -⟩, -⟩ := hu
    omega
theorem exS_no {is : Bool} {R : List Nat} (h : WhyR exS [1] is R) : is = false := by
  cases is with
  | false => rfl
  | true => exact absurd exS_one (h.yes.1 rfl)
end Go.Proofs.Ytknpfopepedmmaa
