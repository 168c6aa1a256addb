/-
  errors.Is over a chain, walked.
-/
import Derived.Test.YtbfnfkefahnklaaDoorFaultD
namespace Go.Proofs.YtbfnfkefahnklaaDoor
open Go.RowKit Go.Extern.Stop Go.Stop Go.Extern
set_option linter.unusedVariables false
theorem eqlEF (a : Addr) (o : Int) (w : World) : (binOp .eql 25 (.iface 35 (.pointer (some a))) (.iface 27 (.int .i64 o))).run Tryd.prog w = .ok (.bool false) w := by kernel_rfl
theorem eqlFF (k o : Int) (w : World) : (binOp .eql 25 (.iface 27 (.int .i64 k)) (.iface 27 (.int .i64 o))).run Tryd.prog w = .ok (.bool (k == o)) w := by kernel_rfl
set_option maxHeartbeats 4000000 in
theorem is_C {w : World} {v : Value} {k o : Int} {l : List (Nat × Int)} (hl : Chain w k l v) :
    Calls Tryd.prog 21 #[v, .iface 27 (.int .i64 o), .bool true] w fun ev w' => ev = .returned (.bool (k == o)) ∧ w = w' := by
  have mU := methodUnwrap
  have t1 := taEI
  have t2 := taEU
  have t3 := taFI
  have t4 := taFU
  have t5 := taFV
  have q1 := eqlEF
  have q2 := eqlFF
  have HL := Lib.hid hl
  clear hl
  go_enter Tryd.func21, Tryd.ntmps21
  go_wp2
  go_loopw [0] (fun x wr => wr = w ∧ ∃ q, Chain w k q x) (fun x wr => clen wr k x)
  case atStart => exact ⟨rfl, l, HL.out⟩
  case round =>
    obtain ⟨rfl, q, hq⟩ := hrel
    cases q with
    | nil =>
      have e := hq
      unfold Chain at e
      subst e
      clear hq
      cases hko : k == o with
      | true =>
        have q3 := eqlFF k o
        rw [hko] at q3
        have HK := Lib.hid hko
        clear hko q2
        go_wp2
        go_ret
        exact ⟨congrArg (fun z => Ending.returned (Value.bool z)) HK.out.symm, rfl⟩
      | false =>
        have q3 := eqlFF k o
        rw [hko] at q3
        have HK := Lib.hid hko
        clear hko q2
        go_wp2
        go_ret
        exact ⟨congrArg (fun z => Ending.returned (Value.bool z)) HK.out.symm, rfl⟩
    | cons p r =>
      obtain ⟨b, pa⟩ := p
      have hcl := clen_eq hq
      obtain ⟨e, u, hb, hr⟩ := hq
      subst e
      have hcr := clen_eq hr
      obtain ⟨ut, ux, hu⟩ := hr.iface
      subst hu
      have HR := Lib.hid hr
      have HC := Lib.hid hcl
      have HCR := Lib.hid hcr
      have HU := Lib.hid (unwrap_ hb)
      clear hr hcl hcr hb
      go_wp2_with ((go_at_call 12; refine (HU.out).mono ?_; rintro ev w' ⟨rfl, rfl⟩))
      go_roundw
      case rel => exact ⟨trivial, r, HR.out⟩
      case measure => rw [HC.out, HCR.out]; simp
set_option maxHeartbeats 4000000 in
theorem Is_C {w : World} {v : Value} {k o : Int} {l : List (Nat × Int)} (hl : Chain w k l v) :
    Calls Tryd.prog 15 #[v, .iface 27 (.int .i64 o)] w fun ev w' => ev = .returned (.bool (k == o)) ∧ w = w' := by
  have f20 := @run_callFunc_extern Tryd.prog 20 _ ReflectliteType.typeOf Tryd.func20 (by kernel_rfl) (by kernel_rfl) (by kernel_rfl) (by kernel_rfl)
  have fco := @run_callFunc_extern Tryd.prog 48 _ (ReflectliteType.method (fun t => do Rtype.noPackHeld "Comparable" t; pure (.bool (← typeInfo t).comparable))) Tryd.func48 (by kernel_rfl) (by kernel_rfl) (by kernel_rfl) (by kernel_rfl)
  have tO := typeOfF
  have mC := methodComparable
  have cF : ∀ w : World, (ReflectliteType.method (fun t => do Rtype.noPackHeld "Comparable" t; (fun a : TypeInfo => Value.bool a.comparable) <$> typeInfo t) #[.agg #[.pointer (some ⟨1, 27, none⟩)]]).run Tryd.prog w = .ok (.bool true) w := fun w => by kernel_rfl
  have HI := Lib.hid (is_C (o := o) hl)
  obtain ⟨vt, vx, hv⟩ := hl.iface
  subst hv
  clear hl
  go_enter Tryd.func15, Tryd.ntmps15
  go_wp2_with ((go_at_call 21; refine (HI.out).mono ?_; rintro ev w' ⟨rfl, rfl⟩))
  go_ret
  exact ⟨rfl, rfl⟩
end Go.Proofs.YtbfnfkefahnklaaDoor
