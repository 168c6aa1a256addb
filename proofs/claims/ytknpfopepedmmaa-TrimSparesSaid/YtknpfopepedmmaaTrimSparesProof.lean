/-
  astrariumlaw26.TrimSpares: for every input the law returns true, and each argument reads as it read before. No condition.
-/
import Derived.Test.YtknpfopepedmmaaRows
import Derived.Test.YtknpfopepedmmaaFrame
import Derived.Test.YtknpfopepedmmaaTmL
import Derived.WalkKit
import Derived.ProofKit
import Derived.OpenShut
namespace Go.Proofs.Ytknpfopepedmmaa.trimSpares
open Go.ChangeShapes Go.WideShapes Go.ChangeAt Go.RowKit
set_option linter.unusedVariables false

theorem own : ownKnob Try.prog.godebug = none := by kernel_rfl
theorem laidOut : laidOutB Try.prog = true := by kernel_rfl
theorem readable : ∀ t ∈ [26, 26, 45, 28], Try.prog.readableRec t = true ∧ t < Try.prog.types.size := by
  have h : ([26, 26, 45, 28].all fun t => Try.prog.readableRec t && decide (t < Try.prog.types.size)) = true := by kernel_rfl
  intro t ht
  have := List.all_eq_true.1 h t ht
  simpa using this

theorem walked (H : Type) (enc : TypeId × Value → H) (W : World) (v0 v1 v2 v3 : Value) (d0 d1 d2 d3 : DataW H) (p0 p1 p2 p3 : List MemPlace)
    (h0 : DataW.Trod enc Try.prog W 0 (fun _ => true) true 26 v0 d0 p0) (k0 : ∃ b, Value.okWide Try.prog W .any b 26 v0)
    (h1 : DataW.Trod enc Try.prog W 0 (fun _ => true) true 26 v1 d1 p1) (k1 : ∃ b, Value.okWide Try.prog W .any b 26 v1)
    (h2 : DataW.Trod enc Try.prog W 0 (fun _ => true) true 45 v2 d2 p2) (k2 : ∃ b, Value.okWide Try.prog W .any b 45 v2)
    (h3 : DataW.Trod enc Try.prog W 0 (fun _ => true) true 28 v3 d3 p3) (k3 : ∃ b, Value.okWide Try.prog W .any b 28 v3)
    (hlt : ∀ x ∈ p0 ++ (p1 ++ (p2 ++ (p3))), x.block < W.heap.size) :
    Calls Try.prog 10 #[v0, v1, v2, v3] W fun e W' => e = .returned (.bool true) ∧ Below W.heap.size W W' := by
  obtain ⟨og, hog⟩ := Fr.intsS_of Try.underlying26 Try.underlying28 Try.underlying3 (by kernel_rfl) (by kernel_rfl) k0 h0
  obtain ⟨oth, hoth⟩ := Fr.intsS_of Try.underlying26 Try.underlying28 Try.underlying3 (by kernel_rfl) (by kernel_rfl) k1 h1
  obtain ⟨xs, hxs⟩ := Fr.stps_of k2 h2
  obtain ⟨pa, pcap, ps, rfl, p0, p1, p2, p3, p4⟩ := Fr.ints_of2 Try.underlying28 Try.underlying3 (by kernel_rfl) k3 h3
  exact claw_tspares hog hoth hxs ⟨pa, pcap, rfl, p0, p1, p2, p4⟩

set_option maxRecDepth 100000 in
theorem lifted (os : Os) (started : os.Started) (H : Type) (enc : TypeId × Value → H) :
    ReturnsInHanded {} Try.checked os 10 .any (Rows.trimSparesSpec.pre6 enc Try.prog Try.f10 Rows.trimSparesRow.domain false) (Rows.trimSparesSpec.post enc Try.prog Try.f10 false true false false) := by
  refine returnsInHanded_of_change (C := Try.checked) own started (by kernel_rfl) Try.func10
    (ChangeSpec.witness6 (enc := enc) (C := Try.checked) false ⟨#[], #[.slice none 0 0, .slice none 0 0, .slice none 0 0, .slice none 0 0], []⟩ 8 (by kernel_rfl) (by kernel_rfl) (by kernel_rfl) (by kernel_rfl)) ?_
  intro W base args ds gs before hval0 hW hcnd _
  have hval : ∀ (j : Nat) t v, Try.f10.params[j]? = some t → args[j]? = some v → Value.okWide Try.prog W .any base t v := hval0
  have hW' := hW
  obtain ⟨p, q, hA0, hV, rfl, hfz, hnd⟩ := hW
  have hA : DataW.TrodAll enc Try.prog W 0 (fun _ => true) true Try.f10.params.toList args.toList ds p := hA0
  obtain ⟨rfl, rfl⟩ := trodVars_none hV
  simp only [List.append_nil] at hW'
  have hlt : ∀ x ∈ p, x.block < W.heap.size := fun x hx => hW'.lt x hx
  have hA3 := hA
  rw [Try.params10] at hA hval
  have hA2 := hA
  obtain ⟨v0, vs0, d0, ds0, p0, q0, hargs, rfl, hp0, h0, r0⟩ := trodAll_cons hA2
  obtain ⟨v1, vs1, d1, ds1, p1, q1, rfl, rfl, hp1, h1, r1⟩ := trodAll_cons r0
  obtain ⟨v2, vs2, d2, ds2, p2, q2, rfl, rfl, hp2, h2, r2⟩ := trodAll_cons r1
  obtain ⟨v3, vs3, d3, ds3, p3, q3, rfl, rfl, hp3, h3, r3⟩ := trodAll_cons r2
  obtain ⟨rfl, rfl, hpl⟩ := trodAll_nil r3
  obtain rfl : args = #[v0, v1, v2, v3] := by cases args; simp_all
  have hp : p = p0 ++ (p1 ++ (p2 ++ (p3))) := by simp only [hp0, hp1, hp2, hp3, hpl, List.append_nil]
  refine (walked H enc W v0 v1 v2 v3 d0 d1 d2 d3 p0 p1 p2 p3 h0 ⟨_, hval 0 26 v0 rfl rfl⟩ h1 ⟨_, hval 1 26 v1 rfl rfl⟩ h2 ⟨_, hval 2 45 v2 rfl rfl⟩ h3 ⟨_, hval 3 28 v3 rfl rfl⟩ (fun x hx => hlt x (by rw [hp]; exact hx))).mono fun e W' ⟨he, hb⟩ => ?_
  subst he
  exact ⟨_, rfl, Fr.post_of_below (ds := [d0, d1, d2, d3]) (gs := []) (pa := p) (pv := []) (by simpa using hW') (fun _ _ _ => (trodAll_cons_mk (shut_bool Try.underlying4 _) trodAll_mk0))
    (fun sp hsp => Fr.trodAll_stays laidOut hb _ _ _ _ (by rw [Try.params10]; exact readable) hA3 hlt (fun x hx => hsp x (by simpa using hx))) (fun sp _ => rfl) (by simp) hb
    (ok_one (by kernel_rfl) rfl (okWide_bool_mk Try.underlying4 _))⟩

theorem over : Rows.trimSparesRow.holds Try.pinned (OpenSpec.ofChange Rows.trimSparesSpec) :=
  OpenClaim.holds_of_wide 10 Try.f10 rfl rfl rfl rfl rfl rfl rfl ⟨rfl, rfl, rfl, rfl, rfl⟩ rfl rfl rfl rfl rfl (by kernel_rfl) Try.func10 (by kernel_rfl)
    (of_decide_eq_true (by kernel_rfl)) (by unfold Func.isWrapper; first | (rw [if_pos (by decide +kernel)]; kernel_rfl) | (rw [if_neg (by decide +kernel)]; exact ⟨rfl, rfl⟩))
    (fun os started H enc _ => lifted os started H enc)

theorem proved : Rows.TrimSparesSaid :=
  over
#print axioms proved
end Go.Proofs.Ytknpfopepedmmaa.trimSpares
