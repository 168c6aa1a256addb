/-
  astrariumlaw27.GatesMusts: for every input the law returns true, and each argument reads as it read before. No condition.
-/
import Derived.Test.YtkofhilgehhopaaRows
import Derived.Test.YtkofhilgehhopaaFrame
import Derived.Test.YtkofhilgehhopaaGvN
import Derived.WalkKit
import Derived.ProofKit
import Derived.OpenShut
namespace Go.Proofs.Ytkofhilgehhopaa.gatesMusts
open Go.ChangeShapes Go.WideShapes Go.ChangeAt Go.RowKit
set_option linter.unusedVariables false

theorem own : ownKnob Try.prog.godebug = none := by kernel_rfl
theorem laidOut : laidOutB Try.prog = true := by kernel_rfl
theorem readable : ∀ t ∈ [35, 45, 4], Try.prog.readableRec t = true ∧ t < Try.prog.types.size := by
  have h : ([35, 45, 4].all fun t => Try.prog.readableRec t && decide (t < Try.prog.types.size)) = true := by kernel_rfl
  intro t ht
  have := List.all_eq_true.1 h t ht
  simpa using this

set_option maxRecDepth 100000 in
set_option linter.constructorNameAsVariable false in
theorem walked (H : Type) (enc : TypeId × Value → H) (W : World) (v0 v1 v2 : Value) (d0 d1 d2 : DataW H) (p0 p1 p2 : List MemPlace)
    (h0 : DataW.Trod enc Try.prog W 0 (fun _ => true) true 35 v0 d0 p0) (k0 : ∃ b, Value.okWide Try.prog W .any b 35 v0)
    (h1 : DataW.Trod enc Try.prog W 0 (fun _ => true) true 45 v1 d1 p1) (k1 : ∃ b, Value.okWide Try.prog W .any b 45 v1)
    (h2 : DataW.Trod enc Try.prog W 0 (fun _ => true) true 4 v2 d2 p2) (k2 : ∃ b, Value.okWide Try.prog W .any b 4 v2)
    (hlt : ∀ x ∈ p0 ++ (p1 ++ (p2)), x.block < W.heap.size) :
    Calls Try.prog 5 #[v0, v1, v2] W fun e W' => e = .returned (.bool true) ∧ Below W.heap.size W W' := by
  obtain ⟨xs, hxs⟩ := Fr.acts27_of k0 h0
  obtain ⟨og, hog⟩ := Fr.intsS_of Try.underlying45 Try.underlying32 Try.underlying3 (by kernel_rfl) (by kernel_rfl) k1 h1
  obtain ⟨b2, k2⟩ := k2
  obtain ⟨b, rfl, rfl, rfl⟩ := open_bool Try.underlying4 k2 h2
  exact claw_gmusts hxs hog b

set_option maxRecDepth 100000 in
theorem lifted (os : Os) (started : os.Started) (H : Type) (enc : TypeId × Value → H) :
    ReturnsInHanded {} Try.checked os 5 .any (Rows.gatesMustsSpec.pre6 enc Try.prog Try.f5 Rows.gatesMustsRow.domain false) (Rows.gatesMustsSpec.post enc Try.prog Try.f5 false true false false) := by
  refine returnsInHanded_of_change (C := Try.checked) own started (by kernel_rfl) Try.func5
    (ChangeSpec.witness6 (enc := enc) (C := Try.checked) false ⟨#[], #[.slice none 0 0, .slice none 0 0, .bool false], []⟩ 8 (by kernel_rfl) (by kernel_rfl) (by kernel_rfl) (by kernel_rfl)) ?_
  intro W base args ds gs before hval0 hW hcnd _
  have hval : ∀ (j : Nat) t v, Try.f5.params[j]? = some t → args[j]? = some v → Value.okWide Try.prog W .any base t v := hval0
  have hW' := hW
  obtain ⟨p, q, hA0, hV, rfl, hfz, hnd⟩ := hW
  have hA : DataW.TrodAll enc Try.prog W 0 (fun _ => true) true Try.f5.params.toList args.toList ds p := hA0
  obtain ⟨rfl, rfl⟩ := trodVars_none hV
  simp only [List.append_nil] at hW'
  have hlt : ∀ x ∈ p, x.block < W.heap.size := fun x hx => hW'.lt x hx
  have hA3 := hA
  rw [Try.params5] at hA hval
  have hA2 := hA
  obtain ⟨v0, vs0, d0, ds0, p0, q0, hargs, rfl, hp0, h0, r0⟩ := trodAll_cons hA2
  obtain ⟨v1, vs1, d1, ds1, p1, q1, rfl, rfl, hp1, h1, r1⟩ := trodAll_cons r0
  obtain ⟨v2, vs2, d2, ds2, p2, q2, rfl, rfl, hp2, h2, r2⟩ := trodAll_cons r1
  obtain ⟨rfl, rfl, hpl⟩ := trodAll_nil r2
  obtain rfl : args = #[v0, v1, v2] := by cases args; simp_all
  have hp : p = p0 ++ (p1 ++ (p2)) := by simp only [hp0, hp1, hp2, hpl, List.append_nil]
  refine (walked H enc W v0 v1 v2 d0 d1 d2 p0 p1 p2 h0 ⟨_, hval 0 35 v0 rfl rfl⟩ h1 ⟨_, hval 1 45 v1 rfl rfl⟩ h2 ⟨_, hval 2 4 v2 rfl rfl⟩ (fun x hx => hlt x (by rw [hp]; exact hx))).mono fun e W' ⟨he, hb⟩ => ?_
  subst he
  exact ⟨_, rfl, Fr.post_of_below (ds := [d0, d1, d2]) (gs := []) (pa := p) (pv := []) (by simpa using hW') (fun _ _ _ => (trodAll_cons_mk (shut_bool Try.underlying4 _) trodAll_mk0))
    (fun sp hsp => Fr.trodAll_stays laidOut hb _ _ _ _ (by rw [Try.params5]; exact readable) hA3 hlt (fun x hx => hsp x (by simpa using hx))) (fun sp _ => rfl) (by simp) hb
    (ok_one (by kernel_rfl) rfl (okWide_bool_mk Try.underlying4 _))⟩

theorem over : Rows.gatesMustsRow.holds Try.pinned (OpenSpec.ofChange Rows.gatesMustsSpec) :=
  OpenClaim.holds_of_wide 5 Try.f5 rfl rfl rfl rfl rfl rfl rfl ⟨rfl, rfl, rfl, rfl, rfl⟩ rfl rfl rfl rfl rfl (by kernel_rfl) Try.func5 (by kernel_rfl)
    (of_decide_eq_true (by kernel_rfl)) (by unfold Func.isWrapper; first | (rw [if_pos (by decide +kernel)]; kernel_rfl) | (rw [if_neg (by decide +kernel)]; exact ⟨rfl, rfl⟩))
    (fun os started H enc _ => lifted os started H enc)

theorem proved : Rows.GatesMustsSaid :=
  over
#print axioms proved
end Go.Proofs.Ytkofhilgehhopaa.gatesMusts
