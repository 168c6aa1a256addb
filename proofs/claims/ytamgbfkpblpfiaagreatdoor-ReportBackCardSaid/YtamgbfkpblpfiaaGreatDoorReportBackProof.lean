/-
  astrariumlaw37.ReportBack: for every input the law returns true, and each argument reads as it read before. No condition.
-/
import Derived.Test.YtamgbfkpblpfiaaGreatDoorRows
import Derived.Test.YtamgbfkpblpfiaaGreatDoorCards
import Derived.Test.YtamgbfkpblpfiaaGreatDoorTie
import Derived.Test.YtamgbfkpblpfiaaGreatDoorFrame
import Derived.Test.YtamgbfkpblpfiaaGreatDoorFrameZ
import Derived.Test.YtamgbfkpblpfiaaGreatDoorRqV
import Derived.WalkKit
import Derived.ProofKit
import Derived.OpenShut
import Derived.ChangeVars
import Derived.JoinedOf
import Derived.LaidLaws
import Derived.Lib.LaidU8
import Derived.Lib.AppendIntMem
import Derived.LaidHandle
import Derived.SevenTiedAt
import Derived.Stop.Joined
namespace Go.Proofs.YtamgbfkpblpfiaaGreatDoor.reportBack
open Go.ChangeShapes Go.WideShapes Go.ChangeAt Go.RowKit
set_option linter.unusedVariables false

abbrev dataLaid : List (String × DataW Unit) := [("math/bits.deBruijn32tab", Rows.laid_math_bits_deBruijn32tab), ("math/bits.deBruijn64tab", Rows.laid_math_bits_deBruijn64tab), ("internal/strconv.uint64pow10", Rows.laid_internal_strconv_uint64pow10), ("unicode/utf8.acceptRanges", Rows.laid_unicode_utf8_acceptRanges), ("unicode/utf8.first", Rows.laid_unicode_utf8_first)]
abbrev laid : List (String × DataW Unit) := [("math/bits.deBruijn32tab", Rows.laid_math_bits_deBruijn32tab), ("math/bits.deBruijn64tab", Rows.laid_math_bits_deBruijn64tab), ("internal/strconv.uint64pow10", Rows.laid_internal_strconv_uint64pow10), ("unicode/utf8.acceptRanges", Rows.laid_unicode_utf8_acceptRanges), ("errors.errorType", Rows.laid_errors_errorType), ("unicode/utf8.first", Rows.laid_unicode_utf8_first)]
theorem gpow : ∃ g, Tryz.prog.globalNamed "internal/strconv.uint64pow10" = some g ∧ (Tryz.prog.globals[g]?).map (·.type) = some 193 := ⟨(Tryz.prog.globalNamed "internal/strconv.uint64pow10").getD 0, by kernel_rfl, by kernel_rfl⟩
theorem tab_of {W : World} (h : laidMet Tryz.prog dataLaid W) : Tab W := by
  obtain ⟨g, t, cs, fuel, p, hg, hty, hvar, hd⟩ := Lib.laidMet.reads h (n := "internal/strconv.uint64pow10") (d := Rows.laid_internal_strconv_uint64pow10) (.tail _ (.tail _ (.head _)))
  obtain ⟨g', e1, e2⟩ := gpow
  obtain rfl := Option.some.inj (e1.symm.trans hg)
  obtain rfl := Option.some.inj (e2.symm.trans hty)
  have hcs := Lib.cells_of_tab (k := .u64) (zs := Lib.pow10Tab) (n := 20) (e := 82) (by kernel_rfl) (by kernel_rfl) (by kernel_rfl) (by kernel_rfl) (show DataW.trod (fun _ => ()) Tryz.prog W 0 (fun _ => true) false fuel 193 cs.toList = some (Lib.tabData .u64 Lib.pow10Tab, p) from hd)
  unfold Tab Lib.TabIs
  rw [hvar, ← hcs]
theorem et : Tryz.prog.globalNamed "errors.errorType" = some 0 := by kernel_rfl
theorem rt : (Tryz.prog.cutTypes.find? (·.1 == "internal/reflectlite.rtype")).map (·.2) = some 148 := by kernel_rfl
theorem oneRow : ((List.range Tryz.prog.types.size).filter fun t => Tryz.prog.rowNamed t [101, 114, 114, 111, 114]) = [51] := by kernel_rfl
/-- What the condition gives a walk of the handle: the variable's one cell. -/
theorem handle_of {W : World} (h : handlesMet Tryz.prog [("errors.errorType", Rows.laid_errors_errorType)] W) : W.cell? ⟨0, 0, none⟩ = some (.iface 148 (.agg #[.pointer (some ⟨7, 51, none⟩)])) := by
  obtain ⟨name, u, ty, e1, e2, e3, e4, e5⟩ := h _ (List.mem_singleton.2 rfl)
  have en : name = [101, 114, 114, 111, 114] := (Option.some.inj e1).symm
  subst en
  obtain rfl := Option.some.inj (rt.symm.trans e2)
  have hm : ty ∈ (List.range Tryz.prog.types.size).filter fun t => Tryz.prog.rowNamed t [101, 114, 114, 111, 114] := List.mem_filter.2 ⟨List.mem_range.2 e3, e4⟩
  rw [oneRow] at hm
  obtain rfl := List.mem_singleton.1 hm
  have hh : typeHandle Tryz.prog 51 = .pointer (some ⟨7, 51, none⟩) := by kernel_rfl
  rw [hh] at e5
  simpa using World.var?_cell et e5 0
/-- What the condition gives a walk. -/
theorem given {W : World} (h : laidMetH Tryz.prog laid W) : Tab W ∧ Laid W := by
  have h' : laidMet Tryz.prog dataLaid W ∧ handlesMet Tryz.prog [("errors.errorType", Rows.laid_errors_errorType)] W := h
  have hh := handle_of h'.2
  exact ⟨tab_of h'.1, hh, World.block_lt_of_cell? W _ hh⟩
/-- The cells of a table. -/
noncomputable def cells1 : DataW Unit → List Value
  | .lit (.int k z) => [Value.int k z]
  | .agg l => l.flatMap fun | .lit (.int k z) => [Value.int k z] | _ => []
  | _ => []
noncomputable def cellsOf : DataW Unit → Array Value
  | .agg l => (l.flatMap cells1).toArray
  | _ => #[]
noncomputable def lay (w : World) (n : String) (cs : Array Value) : World :=
  { w with heap := w.heap.modify ((Tryz.prog.globalNamed n).getD 0) fun
      | .cells _ t frozen => .cells cs t frozen
      | o => o }
/-- A world that meets the condition. -/
noncomputable def laidWorld (os : Os) : World := lay (lay (lay (lay (lay (lay (World.holding Tryz.prog os ⟨#[], #[], []⟩) "math/bits.deBruijn32tab" (cellsOf Rows.laid_math_bits_deBruijn32tab)) "math/bits.deBruijn64tab" (cellsOf Rows.laid_math_bits_deBruijn64tab)) "internal/strconv.uint64pow10" (cellsOf Rows.laid_internal_strconv_uint64pow10)) "unicode/utf8.acceptRanges" (cellsOf Rows.laid_unicode_utf8_acceptRanges)) "unicode/utf8.first" (cellsOf Rows.laid_unicode_utf8_first)) "errors.errorType" #[.iface 148 (.agg #[.pointer (some ⟨7, 51, none⟩)])]
theorem laidWorld_met (os : Os) (args : Array Value) : laidMetH Tryz.prog laid ((laidWorld os).forCall (fun _ _ => 0) ⟨#[], args, []⟩).memory :=
  laidMetH_of_parts (laidMet_of_run' 8 (by kernel_rfl) (by kernel_rfl)) (by kernel_rfl)
theorem own : ownKnob Tryz.prog.godebug = none := by kernel_rfl
theorem laidOut : laidOutB Tryz.prog = true := by kernel_rfl
theorem readable : ∀ t ∈ [33, 9], Tryz.prog.readableRec t = true ∧ t < Tryz.prog.types.size := by
  have h : ([33, 9].all fun t => Tryz.prog.readableRec t && decide (t < Tryz.prog.types.size)) = true := by kernel_rfl
  intro t ht
  have := List.all_eq_true.1 h t ht
  simpa using this

set_option maxRecDepth 100000 in
theorem walked (H : Type) (enc : TypeId × Value → H) (W : World) (v0 v1 : Value) (d0 d1 : DataW H) (p0 p1 : List MemPlace)
    (h0 : DataW.Trod enc Tryz.prog W 0 (fun _ => true) true 33 v0 d0 p0) (k0 : ∃ b, Value.okWide Tryz.prog W .any b 33 v0)
    (h1 : DataW.Trod enc Tryz.prog W 0 (fun _ => true) true 9 v1 d1 p1) (k1 : ∃ b, Value.okWide Tryz.prog W .any b 9 v1)
    (hL : Tab W ∧ Laid W ∧ MaxL W) (hlt : ∀ x ∈ p0 ++ (p1), x.block < W.heap.size) :
    Calls Tryz.prog 4 #[v0, v1] W fun e W' => e = .returned (.bool true) ∧ Below W.heap.size W W' := by
  obtain ⟨d, vl, vm, vi, vp, rfl, hd⟩ := rp_of k0 h0
  obtain ⟨b1, k1⟩ := k1
  obtain ⟨s, rfl, rfl, rfl, w0⟩ := Go.ChangeMaps.open_string Tryz.underlying9 k1 h1
  exact claw_rback hL.1 hL.2.1 hL.2.2 hd s w0

set_option maxRecDepth 100000 in
theorem lifted (os : Os) (started : os.Started) (H : Type) (enc : TypeId × Value → H) :
    ReturnsInHanded {} Tryz.checked os 4 .any (fun w args => (Rows.reportBackSpec.pre enc Tryz.prog Tryz.f4 [] false w args ∧ laidMetH Tryz.prog laid w) ∧ sizedMet enc Tryz.prog Tryz.f4 (OpenSpec.ofChange Rows.reportBackSpec) false w args)
      (Rows.reportBackSpec.post enc Tryz.prog Tryz.f4 false true false false) := by
  refine handed_open (C := Tryz.checked) (X := fun w _ => laidMetH Tryz.prog laid w) (fun _ _ _ hh h => h.of_heap hh) own started (by kernel_rfl) Tryz.func4
    (ChangeSpec.witness_at (enc := enc) (C := Tryz.checked) (os := os) (X := fun w _ => laidMetH Tryz.prog laid w) false (laidWorld os) #[.agg #[.int .i64 0, .int .i64 0, .int .i64 0, .int .i64 0, .slice none 0 0, .slice none 0 0, .slice none 0 0, .int .i64 0, .int .i64 0, .int .i64 0, .bool false, .slice none 0 0], .string ByteArray.empty] 8 rfl (by kernel_rfl) (by kernel_rfl) (by kernel_rfl) (by kernel_rfl) (by kernel_rfl) (laidWorld_met os _)) ?_
  intro W base args ds gs before hval0 hW hLm hSh
  have hval : ∀ (j : Nat) t v, Tryz.f4.params[j]? = some t → args[j]? = some v → Value.okWide Tryz.prog W .any base t v := hval0
  have hL := (show Tab W ∧ Laid W ∧ MaxL W from ⟨(given hLm).1, (given hLm).2, maxL_of hSh⟩)
  have hW' := hW
  obtain ⟨p, q, hA0, hV, rfl, hfz, hnd⟩ := hW
  have hA : DataW.TrodAll enc Tryz.prog W 0 (fun _ => true) true Tryz.f4.params.toList args.toList ds p := hA0
  obtain ⟨rfl, rfl⟩ := trodVars_none hV
  simp only [List.append_nil] at hW'
  have hlt : ∀ x ∈ p, x.block < W.heap.size := fun x hx => hW'.lt x hx
  have hA3 := hA
  rw [Tryz.params4] at hA hval
  have hA2 := hA
  obtain ⟨v0, vs0, d0, ds0, p0, q0, hargs, rfl, hp0, h0, r0⟩ := trodAll_cons hA2
  obtain ⟨v1, vs1, d1, ds1, p1, q1, rfl, rfl, hp1, h1, r1⟩ := trodAll_cons r0
  obtain ⟨rfl, rfl, hpl⟩ := trodAll_nil r1
  obtain rfl : args = #[v0, v1] := by cases args; simp_all
  have hp : p = p0 ++ (p1) := by simp only [hp0, hp1, hpl, List.append_nil]
  refine (walked H enc W v0 v1 d0 d1 p0 p1 h0 ⟨_, hval 0 33 v0 rfl rfl⟩ h1 ⟨_, hval 1 9 v1 rfl rfl⟩ hL (fun x hx => hlt x (by rw [hp]; exact hx))).mono fun e W' ⟨he, hb⟩ => ?_
  subst he
  exact ⟨_, rfl, Fr.post_of_below (ds := [d0, d1]) (gs := []) (pa := p) (pv := []) (by simpa using hW') (fun _ _ _ => (trodAll_cons_mk (shut_bool Tryz.underlying4 _) trodAll_mk0))
    (fun sp hsp => Fr.trodAll_stays laidOut hb _ _ _ _ (by rw [Tryz.params4]; exact readable) hA3 hlt (fun x hx => hsp x (by simpa using hx))) (fun sp _ => rfl) (by simp) hb
    (ok_one (by kernel_rfl) rfl (okWide_bool_mk Tryz.underlying4 _))⟩

theorem over : Rows.reportBackRow.holds Tryz.pinned (OpenSpec.ofChange Rows.reportBackSpec) :=
  OpenClaim.holds_of_wide 4 Tryz.f4 rfl rfl rfl rfl rfl rfl rfl ⟨rfl, rfl, rfl, rfl, rfl⟩ rfl rfl rfl rfl rfl (by kernel_rfl) Tryz.func4 (by kernel_rfl)
    (of_decide_eq_true (by kernel_rfl)) (by unfold Func.isWrapper; first | (rw [if_pos (by decide +kernel)]; kernel_rfl) | (rw [if_neg (by decide +kernel)]; exact ⟨rfl, rfl⟩))
    (fun os started H enc _ => lifted os started H enc)

theorem proved : Rows.ReportBackCardSaid :=
  Claim7.holds_tied_plain_at .later [] [.data, .data, .data, .data, .handle, .pinned] true Rows.reportBackCard.stood.harness true
    over (fun _ h => by cases h) (by kernel_rfl) (fun _ h => by cases h) reportBack_row_tie rfl ⟨rfl, rfl⟩ (by kernel_rfl) rfl
    (fun f fn hf hfn => by
      obtain rfl : f = 4 := Option.some.inj ((show Tryz.prog.funcNamed "astrarium/astrariumlaw37.ReportBack" = some 4 by kernel_rfl).symm.trans hf) |>.symm
      obtain rfl : fn = Tryz.f4 := (Option.some.inj (Tryz.func4.symm.trans hfn)).symm
      exact ⟨by kernel_rfl, fun j t ht => by
        rw [Tryz.params4] at ht
        have h3 : t ∈ [33, 9] := by
          obtain ⟨hj, ht⟩ := Array.getElem?_eq_some_iff.1 ht
          rw [← ht]
          exact Array.mem_toList_iff.2 (Array.getElem_mem hj)
        have hw : ([33, 9].all fun t => Tryz.prog.wantsStandIn t == false) = true := by kernel_rfl
        exact beq_iff_eq.1 (List.all_eq_true.1 hw t h3)⟩)
    (by kernel_rfl)
#print axioms proved
end Go.Proofs.YtamgbfkpblpfiaaGreatDoor.reportBack
