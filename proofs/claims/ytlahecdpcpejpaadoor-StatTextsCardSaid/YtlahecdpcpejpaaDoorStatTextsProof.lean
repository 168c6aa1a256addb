/-
  astrariumlaw40.StatTexts: for every input the law returns true, and each argument reads as it read before. No condition.
-/
import Derived.Test.YtlahecdpcpejpaaDoorRows
import Derived.Test.YtlahecdpcpejpaaDoorCards
import Derived.Test.YtlahecdpcpejpaaDoorTie
import Derived.Test.YtlahecdpcpejpaaDoorFrame
import Derived.Test.YtlahecdpcpejpaaDoorFkN
import Derived.WalkKit
import Derived.ProofKit
import Derived.OpenShut
import Derived.ChangeVars
import Derived.JoinedOf
import Derived.LaidLaws
import Derived.Lib.LaidU8
import Derived.Lib.AppendIntMem
import Derived.LaidHandle
import Derived.SevenTiedAt
import Derived.Stop.Joined
namespace Go.Proofs.YtlahecdpcpejpaaDoor.statTexts
open Go.ChangeShapes Go.WideShapes Go.ChangeAt Go.RowKit
set_option linter.unusedVariables false

abbrev dataLaid : List (String × DataW Unit) := [("math/bits.deBruijn32tab", Rows.laid_math_bits_deBruijn32tab), ("math/bits.deBruijn64tab", Rows.laid_math_bits_deBruijn64tab), ("internal/strconv.uint64pow10", Rows.laid_internal_strconv_uint64pow10)]
abbrev laid : List (String × DataW Unit) := [("math/bits.deBruijn32tab", Rows.laid_math_bits_deBruijn32tab), ("math/bits.deBruijn64tab", Rows.laid_math_bits_deBruijn64tab), ("internal/strconv.uint64pow10", Rows.laid_internal_strconv_uint64pow10)]
theorem gpow : ∃ g, Tryd.prog.globalNamed "internal/strconv.uint64pow10" = some g ∧ (Tryd.prog.globals[g]?).map (·.type) = some 121 := ⟨(Tryd.prog.globalNamed "internal/strconv.uint64pow10").getD 0, by kernel_rfl, by kernel_rfl⟩
theorem tab_of {W : World} (h : laidMet Tryd.prog dataLaid W) : Tab W := by
  obtain ⟨g, t, cs, fuel, p, hg, hty, hvar, hd⟩ := Lib.laidMet.reads h (n := "internal/strconv.uint64pow10") (d := Rows.laid_internal_strconv_uint64pow10) (.tail _ (.tail _ (.head _)))
  obtain ⟨g', e1, e2⟩ := gpow
  obtain rfl := Option.some.inj (e1.symm.trans hg)
  obtain rfl := Option.some.inj (e2.symm.trans hty)
  have hcs := Lib.cells_of_tab (k := .u64) (zs := Lib.pow10Tab) (n := 20) (e := 105) (by kernel_rfl) (by kernel_rfl) (by kernel_rfl) (by kernel_rfl) (show DataW.trod (fun _ => ()) Tryd.prog W 0 (fun _ => true) false fuel 121 cs.toList = some (Lib.tabData .u64 Lib.pow10Tab, p) from hd)
  unfold Tab Lib.TabIs
  rw [hvar, ← hcs]
/-- What the condition gives a walk. -/
theorem given {W : World} (h : laidMetH Tryd.prog laid W) : Tab W := tab_of h
/-- The cells of a table. -/
noncomputable def cellsOf : DataW Unit → Array Value
  | .agg l => (l.map fun | .lit (.int k z) => Value.int k z | _ => undef).toArray
  | _ => #[]
noncomputable def lay (w : World) (n : String) (cs : Array Value) : World :=
  { w with heap := w.heap.modify ((Tryd.prog.globalNamed n).getD 0) fun
      | .cells _ t frozen => .cells cs t frozen
      | o => o }
/-- A world that meets the condition. -/
noncomputable def laidWorld (os : Os) : World := lay (lay (lay (World.holding Tryd.prog os ⟨#[], #[], []⟩) "math/bits.deBruijn32tab" (cellsOf Rows.laid_math_bits_deBruijn32tab)) "math/bits.deBruijn64tab" (cellsOf Rows.laid_math_bits_deBruijn64tab)) "internal/strconv.uint64pow10" (cellsOf Rows.laid_internal_strconv_uint64pow10)
theorem laidWorld_met (os : Os) (args : Array Value) : laidMetH Tryd.prog laid ((laidWorld os).forCall (fun _ _ => 0) ⟨#[], args, []⟩).memory :=
  laidMetH_of_parts (laidMet_of_run' 8 (by kernel_rfl) (by kernel_rfl)) (by kernel_rfl)
theorem own : ownKnob Tryd.prog.godebug = none := by kernel_rfl
theorem laidOut : laidOutB Tryd.prog = true := by kernel_rfl
theorem readable : ∀ t ∈ [22, 28, 3], Tryd.prog.readableRec t = true ∧ t < Tryd.prog.types.size := by
  have h : ([22, 28, 3].all fun t => Tryd.prog.readableRec t && decide (t < Tryd.prog.types.size)) = true := by kernel_rfl
  intro t ht
  have := List.all_eq_true.1 h t ht
  simpa using this

set_option maxRecDepth 100000 in
theorem walked (H : Type) (enc : TypeId × Value → H) (W : World) (v0 v1 v2 : Value) (d0 d1 d2 : DataW H) (p0 p1 p2 : List MemPlace)
    (h0 : DataW.Trod enc Tryd.prog W 0 (fun _ => true) true 22 v0 d0 p0) (k0 : ∃ b, Value.okWide Tryd.prog W .any b 22 v0)
    (h1 : DataW.Trod enc Tryd.prog W 0 (fun _ => true) true 28 v1 d1 p1) (k1 : ∃ b, Value.okWide Tryd.prog W .any b 28 v1)
    (h2 : DataW.Trod enc Tryd.prog W 0 (fun _ => true) true 3 v2 d2 p2) (k2 : ∃ b, Value.okWide Tryd.prog W .any b 3 v2)
    (hL : Tab W) (hlt : ∀ x ∈ p0 ++ (p1 ++ (p2)), x.block < W.heap.size) :
    Calls Tryd.prog 3 #[v0, v1, v2] W fun e W' => e = .returned (.bool true) ∧ Below W.heap.size W W' := by
  obtain ⟨x0, x1, x2, x3, x4, x5, x6, x7, x8, x9, rfl, hx⟩ := ten_of h0 k0
  obtain ⟨d, vi, vl, vo, vb, vc, vm, va, rfl, hp⟩ := net_of h1 k1
  obtain ⟨b2, k2⟩ := k2
  obtain ⟨f, rfl, rfl, rfl, wf⟩ := open_int Tryd.underlying3 k2 h2
  exact claw_stexts hp hL hx

set_option maxRecDepth 100000 in
theorem lifted (os : Os) (started : os.Started) (H : Type) (enc : TypeId × Value → H) :
    ReturnsInHanded {} Tryd.checked os 3 .any (fun w args => (Rows.statTextsSpec.pre enc Tryd.prog Tryd.f3 [] false w args ∧ laidMetH Tryd.prog laid w) ∧ sizedMet enc Tryd.prog Tryd.f3 (OpenSpec.ofChange Rows.statTextsSpec) false w args)
      (Rows.statTextsSpec.post enc Tryd.prog Tryd.f3 false true false false) := by
  refine returnsInHanded_of_change_and (C := Tryd.checked) (X := fun w _ => laidMetH Tryd.prog laid w) (fun _ _ _ hh h => h.of_heap hh) own started (by kernel_rfl) Tryd.func3
    (ChangeSpec.witness_at (enc := enc) (C := Tryd.checked) (os := os) (X := fun w _ => laidMetH Tryd.prog laid w) false (laidWorld os) #[.agg #[.int .i64 0, .int .i64 0, .int .i64 0, .int .i64 0, .int .i64 0, .int .i64 0, .int .i64 0, .int .i64 0, .int .i64 0, .int .i64 0], .agg #[.int .i64 0, .slice none 0 0, .slice none 0 0, .slice none 0 0, .slice none 0 0, .slice none 0 0, .slice none 0 0, .slice none 0 0], .int .i64 0] 8 rfl (by kernel_rfl) (by kernel_rfl) (by kernel_rfl) (by kernel_rfl) (by kernel_rfl) (laidWorld_met os _)) ?_
  intro W base args ds gs before hval0 hW hcnd _ hLm _
  have hval : ∀ (j : Nat) t v, Tryd.f3.params[j]? = some t → args[j]? = some v → Value.okWide Tryd.prog W .any base t v := hval0
  have hL := given hLm
  have hW' := hW
  obtain ⟨p, q, hA0, hV, rfl, hfz, hnd⟩ := hW
  have hA : DataW.TrodAll enc Tryd.prog W 0 (fun _ => true) true Tryd.f3.params.toList args.toList ds p := hA0
  obtain ⟨rfl, rfl⟩ := trodVars_none hV
  simp only [List.append_nil] at hW'
  have hlt : ∀ x ∈ p, x.block < W.heap.size := fun x hx => hW'.lt x hx
  have hA3 := hA
  rw [Tryd.params3] at hA hval
  have hA2 := hA
  obtain ⟨v0, vs0, d0, ds0, p0, q0, hargs, rfl, hp0, h0, r0⟩ := trodAll_cons hA2
  obtain ⟨v1, vs1, d1, ds1, p1, q1, rfl, rfl, hp1, h1, r1⟩ := trodAll_cons r0
  obtain ⟨v2, vs2, d2, ds2, p2, q2, rfl, rfl, hp2, h2, r2⟩ := trodAll_cons r1
  obtain ⟨rfl, rfl, hpl⟩ := trodAll_nil r2
  obtain rfl : args = #[v0, v1, v2] := by cases args; simp_all
  have hp : p = p0 ++ (p1 ++ (p2)) := by simp only [hp0, hp1, hp2, hpl, List.append_nil]
  refine (walked H enc W v0 v1 v2 d0 d1 d2 p0 p1 p2 h0 ⟨_, hval 0 22 v0 rfl rfl⟩ h1 ⟨_, hval 1 28 v1 rfl rfl⟩ h2 ⟨_, hval 2 3 v2 rfl rfl⟩ hL (fun x hx => hlt x (by rw [hp]; exact hx))).mono fun e W' ⟨he, hb⟩ => ?_
  subst he
  exact ⟨_, rfl, Fr.post_of_below (ds := [d0, d1, d2]) (gs := []) (pa := p) (pv := []) (by simpa using hW') (fun _ _ _ => (trodAll_cons_mk (shut_bool Tryd.underlying4 _) trodAll_mk0))
    (fun sp hsp => Fr.trodAll_stays laidOut hb _ _ _ _ (by rw [Tryd.params3]; exact readable) hA3 hlt (fun x hx => hsp x (by simpa using hx))) (fun sp _ => rfl) (by simp) hb
    (ok_one (by kernel_rfl) rfl (okWide_bool_mk Tryd.underlying4 _))⟩

theorem over : Rows.statTextsRow.holds Tryd.pinned (OpenSpec.ofChange Rows.statTextsSpec) :=
  OpenClaim.holds_of_wide 3 Tryd.f3 rfl rfl rfl rfl rfl rfl rfl ⟨rfl, rfl, rfl, rfl, rfl⟩ rfl rfl rfl rfl rfl (by kernel_rfl) Tryd.func3 (by kernel_rfl)
    (of_decide_eq_true (by kernel_rfl)) (by unfold Func.isWrapper; first | (rw [if_pos (by decide +kernel)]; kernel_rfl) | (rw [if_neg (by decide +kernel)]; exact ⟨rfl, rfl⟩))
    (fun os started H enc _ => lifted os started H enc)

theorem proved : Rows.StatTextsCardSaid :=
  Claim7.holds_tied_plain_at .later [] [.data, .data, .data] true Rows.statTextsCard.stood.harness false
    over (fun _ h => by cases h) (by kernel_rfl) (fun _ h => by cases h) statTexts_row_tie rfl ⟨rfl, rfl⟩ (by kernel_rfl) rfl
    (fun f fn hf hfn => by
      obtain rfl : f = 3 := Option.some.inj ((show Tryd.prog.funcNamed "astrarium/astrariumlaw40.StatTexts" = some 3 by kernel_rfl).symm.trans hf) |>.symm
      obtain rfl : fn = Tryd.f3 := (Option.some.inj (Tryd.func3.symm.trans hfn)).symm
      exact ⟨by kernel_rfl, fun j t ht => by
        rw [Tryd.params3] at ht
        have h3 : t ∈ [22, 28, 3] := by
          obtain ⟨hj, ht⟩ := Array.getElem?_eq_some_iff.1 ht
          rw [← ht]
          exact Array.mem_toList_iff.2 (Array.getElem_mem hj)
        have hw : ([22, 28, 3].all fun t => Tryd.prog.wantsStandIn t == false) = true := by kernel_rfl
        exact beq_iff_eq.1 (List.all_eq_true.1 hw t h3)⟩)
    (by kernel_rfl)
#print axioms proved
end Go.Proofs.YtlahecdpcpejpaaDoor.statTexts
