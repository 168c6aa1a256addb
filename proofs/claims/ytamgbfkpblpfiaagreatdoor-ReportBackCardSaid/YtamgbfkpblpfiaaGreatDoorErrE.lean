/-
  errors.Is over a chain, walked.
-/
import Derived.Test.YtamgbfkpblpfiaaGreatDoorErrA
namespace Go.Proofs.YtamgbfkpblpfiaaGreatDoor
open Go.RowKit Go.Extern.Stop Go.Stop Go.Extern
set_option linter.unusedVariables false
theorem taEI (v : Value) (w : World) : (Instr.typeAssert (.iface 49 v) 51 202 true).run Tryz.prog w = .ok (.tuple #[.nilIface, .bool false]) w := run_typeAssert_lacksB Tryz.underlying202 (by kernel_rfl) (by kernel_rfl) v _ w
theorem taFI (v : Value) (w : World) : (Instr.typeAssert (.iface 23 v) 51 202 true).run Tryz.prog w = .ok (.tuple #[.nilIface, .bool false]) w := run_typeAssert_lacksB Tryz.underlying202 (by kernel_rfl) (by kernel_rfl) v _ w
theorem eqlEF (a : Addr) (o : Int) (w : World) : (binOp .eql 51 (.iface 49 (.pointer (some a))) (.iface 23 (.int .i64 o))).run Tryz.prog w = .ok (.bool false) w := by kernel_rfl
theorem eqlFF (k o : Int) (w : World) : (binOp .eql 51 (.iface 23 (.int .i64 k)) (.iface 23 (.int .i64 o))).run Tryz.prog w = .ok (.bool (k == o)) w := by kernel_rfl
set_option maxHeartbeats 4000000 in
theorem is_C {w : World} {v : Value} {k o : Int} {l : List (Nat × Int)} (hl : Chain w k l v) :
    Calls Tryz.prog 130 #[v, .iface 23 (.int .i64 o), .bool true] w fun ev w' => ev = .returned (.bool (k == o)) ∧ w = w' := by
  have mU := methodUnwrap
  have t1 := taEI
  have t2 := taEU
  have t3 := taFI
  have t4 := taFU
  have t5 := taFV
  have q1 := eqlEF
  have q2 := eqlFF
  have HL := Lib.hid hl
  clear hl
  go_enter Tryz.func130, Tryz.ntmps130
  go_wp2
  go_loopw [0] (fun x wr => wr = w ∧ ∃ q, Chain w k q x) (fun x wr => clen wr k x)
  case atStart => exact ⟨rfl, l, HL.out⟩
  case round =>
    obtain ⟨rfl, q, hq⟩ := hrel
    cases q with
    | nil =>
      have e := hq
      unfold Chain at e
      subst e
      clear hq
      cases hko : k == o with
      | true =>
        have q3 := eqlFF k o
        rw [hko] at q3
        have HK := Lib.hid hko
        clear hko q2
        go_wp2
        go_ret
        exact ⟨congrArg (fun z => Ending.returned (Value.bool z)) HK.out.symm, rfl⟩
      | false =>
        have q3 := eqlFF k o
        rw [hko] at q3
        have HK := Lib.hid hko
        clear hko q2
        go_wp2
        go_ret
        exact ⟨congrArg (fun z => Ending.returned (Value.bool z)) HK.out.symm, rfl⟩
    | cons p r =>
      obtain ⟨b, pa⟩ := p
      have hcl := clen_eq hq
      obtain ⟨e, u, hb, hr⟩ := hq
      subst e
      have hcr := clen_eq hr
      obtain ⟨ut, ux, hu⟩ := hr.iface
      subst hu
      have HR := Lib.hid hr
      have HC := Lib.hid hcl
      have HCR := Lib.hid hcr
      have HU := Lib.hid (unwrap_ hb)
      clear hr hcl hcr hb
      go_wp2_with ((go_at_call 169; refine (HU.out).mono ?_; rintro ev w' ⟨rfl, rfl⟩))
      go_roundw
      case rel => exact ⟨trivial, r, HR.out⟩
      case measure => rw [HC.out, HCR.out]; simp
set_option maxHeartbeats 4000000 in
theorem Is_C {w : World} {v : Value} {k o : Int} {l : List (Nat × Int)} (hl : Chain w k l v) :
    Calls Tryz.prog 110 #[v, .iface 23 (.int .i64 o)] w fun ev w' => ev = .returned (.bool (k == o)) ∧ w = w' := by
  have f20 := @run_callFunc_extern Tryz.prog 86 _ ReflectliteType.typeOf Tryz.func86 (by kernel_rfl) (by kernel_rfl) (by kernel_rfl) (by kernel_rfl)
  have fco := @run_callFunc_extern Tryz.prog 176 _ (ReflectliteType.method (fun t => do Rtype.noPackHeld "Comparable" t; pure (.bool (← typeInfo t).comparable))) Tryz.func176 (by kernel_rfl) (by kernel_rfl) (by kernel_rfl) (by kernel_rfl)
  have tO := typeOfF
  have mC := methodComparable
  have cF : ∀ w : World, (ReflectliteType.method (fun t => do Rtype.noPackHeld "Comparable" t; (fun a : TypeInfo => Value.bool a.comparable) <$> typeInfo t) #[.agg #[.pointer (some ⟨7, 23, none⟩)]]).run Tryz.prog w = .ok (.bool true) w := fun w => by kernel_rfl
  have HI := Lib.hid (is_C (o := o) hl)
  obtain ⟨vt, vx, hv⟩ := hl.iface
  subst hv
  clear hl
  go_enter Tryz.func110, Tryz.ntmps110
  go_wp2_with ((go_at_call 130; refine (HI.out).mono ?_; rintro ev w' ⟨rfl, rfl⟩))
  go_ret
  exact ⟨rfl, rfl⟩
end Go.Proofs.YtamgbfkpblpfiaaGreatDoor
