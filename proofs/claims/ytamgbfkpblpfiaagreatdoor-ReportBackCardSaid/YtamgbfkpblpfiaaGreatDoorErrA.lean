/-
  errors.As at this program's targets: closed facts on the model's entries for reflectlite.
-/
import Derived.Test.YtamgbfkpblpfiaaGreatDoorProg
import Derived.WalkKit
import Derived.LaidEql
import Derived.Stop.Asserts
import Derived.RowKitTokens
import Derived.Lib.Hide
import Derived.Outline
import Derived.Test.YtamgbfkpblpfiaaGreatDoorFoot
namespace Go.Proofs.YtamgbfkpblpfiaaGreatDoor
open Go.RowKit Go.Extern.Stop Go.Stop Go.Extern
set_option linter.unusedVariables false
/-! ### at **fault.Error -/
theorem valueOfPP (t : Addr) (w : World) : (ReflectliteValue.unpack (.iface 53 (.pointer (some t)))).run Tryz.prog w
    = .ok (.agg #[.pointer (some ⟨7, 53, none⟩), .pointer (some ⟨w.heap.size, 0, none⟩), .int .u64 150]) (w.alloc (.cells #[.pointer (some t)] 53)) := by kernel_rfl
theorem typePP (a : Addr) (w : World) : (ReflectliteValue.methodAny (ReflectliteValue.valueError "reflectlite.Value.Type" 0) (fun t _ _ _ => ReflectliteType.toType t) #[.agg #[.pointer (some ⟨7, 53, none⟩), .pointer (some a), .int .u64 150]]).run Tryz.prog w
    = .ok (.iface 148 (.agg #[.pointer (some ⟨7, 53, none⟩)])) w := by kernel_rfl
theorem kindPP (w : World) : ((ReflectliteType.abiMethod fun t => (fun a : Nat => Value.int IntKind.u8 (a : Int)) <$> Rtype.kind t) #[.pointer (some ⟨7, 53, none⟩)]).run Tryz.prog w = .ok (.int .u8 22) w := by kernel_rfl
theorem kindEP (w : World) : ((ReflectliteType.abiMethod fun t => (fun a : Nat => Value.int IntKind.u8 (a : Int)) <$> Rtype.kind t) #[.pointer (some ⟨7, 49, none⟩)]).run Tryz.prog w = .ok (.int .u8 22) w := by kernel_rfl
theorem elemPP (w : World) : (ReflectliteType.method ReflectliteType.elem #[.agg #[.pointer (some ⟨7, 53, none⟩)]]).run Tryz.prog w = .ok (.iface 148 (.agg #[.pointer (some ⟨7, 49, none⟩)])) w := by kernel_rfl
theorem implementsEP (w : World) : (ReflectliteType.relation "Implements" ReflectliteType.implements_ #[.agg #[.pointer (some ⟨7, 49, none⟩)], .iface 148 (.agg #[.pointer (some ⟨7, 51, none⟩)])]).run Tryz.prog w = .ok (.bool true) w := by kernel_rfl
theorem typeOfEP (v : Value) (w : World) : (ReflectliteType.typeOf #[.iface 49 v]).run Tryz.prog w = .ok (.iface 148 (.agg #[.pointer (some ⟨7, 49, none⟩)])) w := by kernel_rfl
theorem typeOfF (v : Value) (w : World) : (ReflectliteType.typeOf #[.iface 23 v]).run Tryz.prog w = .ok (.iface 148 (.agg #[.pointer (some ⟨7, 23, none⟩)])) w := by kernel_rfl
theorem assignEE (w : World) : (ReflectliteType.relation "AssignableTo" ReflectliteType.assignableTo #[.agg #[.pointer (some ⟨7, 49, none⟩)], .iface 148 (.agg #[.pointer (some ⟨7, 49, none⟩)])]).run Tryz.prog w = .ok (.bool true) w := by kernel_rfl
theorem assignFE (w : World) : (ReflectliteType.relation "AssignableTo" ReflectliteType.assignableTo #[.agg #[.pointer (some ⟨7, 23, none⟩)], .iface 148 (.agg #[.pointer (some ⟨7, 49, none⟩)])]).run Tryz.prog w = .ok (.bool false) w := by kernel_rfl
theorem assignEF (w : World) : (ReflectliteType.relation "AssignableTo" ReflectliteType.assignableTo #[.agg #[.pointer (some ⟨7, 49, none⟩)], .iface 148 (.agg #[.pointer (some ⟨7, 23, none⟩)])]).run Tryz.prog w = .ok (.bool false) w := by kernel_rfl
theorem assignFF (w : World) : (ReflectliteType.relation "AssignableTo" ReflectliteType.assignableTo #[.agg #[.pointer (some ⟨7, 23, none⟩)], .iface 148 (.agg #[.pointer (some ⟨7, 23, none⟩)])]).run Tryz.prog w = .ok (.bool true) w := by kernel_rfl
theorem valueOfEP (e : Addr) (w : World) : (ReflectliteValue.unpack (.iface 49 (.pointer (some e)))).run Tryz.prog w
    = .ok (.agg #[.pointer (some ⟨7, 49, none⟩), .pointer (some ⟨w.heap.size, 0, none⟩), .int .u64 150]) (w.alloc (.cells #[.pointer (some e)] 49)) := by kernel_rfl
/-! ### at *api.Fault -/
theorem valueOfFP (t : Addr) (w : World) : (ReflectliteValue.unpack (.iface 99 (.pointer (some t)))).run Tryz.prog w
    = .ok (.agg #[.pointer (some ⟨7, 99, none⟩), .pointer (some ⟨w.heap.size, 0, none⟩), .int .u64 150]) (w.alloc (.cells #[.pointer (some t)] 99)) := by kernel_rfl
theorem typeFP (a : Addr) (w : World) : (ReflectliteValue.methodAny (ReflectliteValue.valueError "reflectlite.Value.Type" 0) (fun t _ _ _ => ReflectliteType.toType t) #[.agg #[.pointer (some ⟨7, 99, none⟩), .pointer (some a), .int .u64 150]]).run Tryz.prog w
    = .ok (.iface 148 (.agg #[.pointer (some ⟨7, 99, none⟩)])) w := by kernel_rfl
theorem kindFP (w : World) : ((ReflectliteType.abiMethod fun t => (fun a : Nat => Value.int IntKind.u8 (a : Int)) <$> Rtype.kind t) #[.pointer (some ⟨7, 99, none⟩)]).run Tryz.prog w = .ok (.int .u8 22) w := by kernel_rfl
theorem kindFT (w : World) : ((ReflectliteType.abiMethod fun t => (fun a : Nat => Value.int IntKind.u8 (a : Int)) <$> Rtype.kind t) #[.pointer (some ⟨7, 23, none⟩)]).run Tryz.prog w = .ok (.int .u8 2) w := by kernel_rfl
theorem elemFP (w : World) : (ReflectliteType.method ReflectliteType.elem #[.agg #[.pointer (some ⟨7, 99, none⟩)]]).run Tryz.prog w = .ok (.iface 148 (.agg #[.pointer (some ⟨7, 23, none⟩)])) w := by kernel_rfl
theorem implementsFT (w : World) : (ReflectliteType.relation "Implements" ReflectliteType.implements_ #[.agg #[.pointer (some ⟨7, 23, none⟩)], .iface 148 (.agg #[.pointer (some ⟨7, 51, none⟩)])]).run Tryz.prog w = .ok (.bool true) w := by kernel_rfl
theorem valueOfFT (e : Int) (w : World) : (ReflectliteValue.unpack (.iface 23 (.int .i64 e))).run Tryz.prog w
    = .ok (.agg #[.pointer (some ⟨7, 23, none⟩), .pointer (some ⟨w.heap.size, 0, none⟩), .int .u64 130]) (w.alloc (.cells #[.int .i64 e] 23)) := by kernel_rfl
theorem comparableFT (w : World) : (ReflectliteType.method (fun t => do Rtype.noPackHeld "Comparable" t; pure (.bool (← typeInfo t).comparable)) #[.agg #[.pointer (some ⟨7, 23, none⟩)]]).run Tryz.prog w = .ok (.bool true) w := by kernel_rfl
/-! ### the methods of reflectlite's rtype -/
theorem methodKind (h : Value) (w : World) : (Go.method 341 148 (.agg #[h]) "Kind").run Tryz.prog w = .ok (164, h) w := by kernel_rfl
theorem methodElem (h : Value) (w : World) : (Go.method 341 148 (.agg #[h]) "Elem").run Tryz.prog w = .ok (177, .agg #[h]) w := by kernel_rfl
theorem methodImplements (h : Value) (w : World) : (Go.method 341 148 (.agg #[h]) "Implements").run Tryz.prog w = .ok (178, .agg #[h]) w := by kernel_rfl
theorem methodAssignableTo (h : Value) (w : World) : (Go.method 341 148 (.agg #[h]) "AssignableTo").run Tryz.prog w = .ok (175, .agg #[h]) w := by kernel_rfl
theorem methodComparable (h : Value) (w : World) : (Go.method 341 148 (.agg #[h]) "Comparable").run Tryz.prog w = .ok (176, .agg #[h]) w := by kernel_rfl
theorem methodUnwrap (h : Value) (w : World) : (Go.method 341 49 h "Unwrap").run Tryz.prog w = .ok (169, h) w := by kernel_rfl
/-! ### type assertions to interfaces -/
theorem taEA (v : Value) (w : World) : (Instr.typeAssert (.iface 49 v) 51 153 true).run Tryz.prog w = .ok (.tuple #[.nilIface, .bool false]) w := run_typeAssert_lacksB Tryz.underlying153 (by kernel_rfl) (by kernel_rfl) v _ w
theorem taEU (v : Value) (w : World) : (Instr.typeAssert (.iface 49 v) 51 156 true).run Tryz.prog w = .ok (.tuple #[.iface 49 v, .bool true]) w := run_typeAssert_hasB Tryz.underlying156 (by kernel_rfl) v _ w
theorem taFA (v : Value) (w : World) : (Instr.typeAssert (.iface 23 v) 51 153 true).run Tryz.prog w = .ok (.tuple #[.nilIface, .bool false]) w := run_typeAssert_lacksB Tryz.underlying153 (by kernel_rfl) (by kernel_rfl) v _ w
theorem taFU (v : Value) (w : World) : (Instr.typeAssert (.iface 23 v) 51 156 true).run Tryz.prog w = .ok (.tuple #[.nilIface, .bool false]) w := run_typeAssert_lacksB Tryz.underlying156 (by kernel_rfl) (by kernel_rfl) v _ w
theorem taFV (v : Value) (w : World) : (Instr.typeAssert (.iface 23 v) 51 157 true).run Tryz.prog w = .ok (.tuple #[.nilIface, .bool false]) w := run_typeAssert_lacksB Tryz.underlying157 (by kernel_rfl) (by kernel_rfl) v _ w
end Go.Proofs.YtamgbfkpblpfiaaGreatDoor
/-
  errors.As, walked: at **fault.Error.
-/
namespace Go.Proofs.YtamgbfkpblpfiaaGreatDoor
open Go.RowKit Go.Extern.Stop Go.Stop Go.Extern
set_option linter.unusedVariables false
theorem rlm (z : Sem Value) (f : TypeId → Addr → Nat → Nat → Sem Value) (v : Value) :
    ReflectliteValue.method z f #[v] = (do match ← ReflectliteValue.parts v with | none => z | some (t, a, fl) => f t a fl (fl % 32)) := rfl
theorem partsPP (a : Addr) (w : World) : (ReflectliteValue.parts (.agg #[.pointer (some ⟨7, 53, none⟩), .pointer (some a), .int .u64 150])).run Tryz.prog w = .ok (some (53, a, 150)) w := by kernel_rfl
theorem isNilPP (a p : Addr) (W : World) (ha : W.cell? a = some (.pointer (some p))) :
    (ReflectliteValue.method (ReflectliteValue.valueError "reflectlite.Value.IsNil" 0) ReflectliteValue.isNil #[.agg #[.pointer (some ⟨7, 53, none⟩), .pointer (some a), .int .u64 150]]).run Tryz.prog W = .ok (.bool false) W := by
  rw [rlm]
  simp only [Sem.run_bind, partsPP, Result.andThen]
  simp [ReflectliteValue.isNil, loadVar, isAgg, underlying, Tryz.underlying53, ha, Result.andThen]
theorem elemOfPP (w : World) : (Rtype.elem? 53).run Tryz.prog w = .ok (some 49) w := by kernel_rfl
theorem mkEP (p : Addr) (w : World) : (ReflectliteValue.mk 49 p ReflectliteValue.flagAddr).run Tryz.prog w = .ok (.agg #[.pointer (some ⟨7, 49, none⟩), .pointer (some p), .int .u64 406]) w := by kernel_rfl
theorem elemVPP (a p : Addr) (W : World) (ha : W.cell? a = some (.pointer (some p))) :
    (ReflectliteValue.method (ReflectliteValue.valueError "reflectlite.Value.Elem" 0) ReflectliteValue.elem #[.agg #[.pointer (some ⟨7, 53, none⟩), .pointer (some a), .int .u64 150]]).run Tryz.prog W
      = .ok (.agg #[.pointer (some ⟨7, 49, none⟩), .pointer (some p), .int .u64 406]) W := by
  rw [rlm]
  simp only [Sem.run_bind, partsPP, Result.andThen]
  simp [ReflectliteValue.elem, loadVar, isAgg, underlying, Tryz.underlying53, ha, Result.andThen, elemOfPP, mkEP]
theorem rls (v x : Value) : ReflectliteValue.set #[v, x] = (do
    let (some (dst, a, fl), some (src, b, _)) := (← ReflectliteValue.parts v, ← ReflectliteValue.parts x)
      | unsupported (.noEntry "extern/(internal/reflectlite.Value).Set.zeroValue")
    if fl / ReflectliteValue.flagAddr % 2 == 0 then unsupported (.noEntry "extern/(internal/reflectlite.Value).Set.unaddressable")
    let val ← loadVar src b
    if ← Rtype.directlyAssignable dst src then storeVar dst a val
    else if ← Rtype.implements dst src then
      if (← Rtype.kind src) == 20 then
        match val with
        | .nilIface => unsupported (.noEntry "extern/reflectlite: a nil value of one interface type handed on as a value of another")
        | _ => storeVar dst a val
      else storeVar dst a (.iface src val)
    else panicString ("reflectlite.Set: value of type " ++ (← Rtype.spelt src) ++ " is not assignable to type " ++ (← Rtype.spelt dst))
    pure (.tuple #[])) := rfl
theorem partsEPa (a : Addr) (w : World) : (ReflectliteValue.parts (.agg #[.pointer (some ⟨7, 49, none⟩), .pointer (some a), .int .u64 406])).run Tryz.prog w = .ok (some (49, a, 406)) w := by kernel_rfl
theorem partsEP (a : Addr) (w : World) : (ReflectliteValue.parts (.agg #[.pointer (some ⟨7, 49, none⟩), .pointer (some a), .int .u64 150])).run Tryz.prog w = .ok (some (49, a, 150)) w := by kernel_rfl
theorem directEP (w : World) : (Rtype.directlyAssignable 49 49).run Tryz.prog w = .ok true w := by kernel_rfl
theorem setEP (ta b e : Addr) (old : Value) (W : World) (hb : W.cell? b = some (.pointer (some e))) (ht : W.cell? ta = some old) (hf : W.frozen? ta = false) :
    (ReflectliteValue.set #[.agg #[.pointer (some ⟨7, 49, none⟩), .pointer (some ta), .int .u64 406], .agg #[.pointer (some ⟨7, 49, none⟩), .pointer (some b), .int .u64 150]]).run Tryz.prog W
      = .ok (.tuple #[]) (W.setCell ta (.pointer (some e))) := by
  rw [rls]
  simp only [Sem.run_bind, partsEPa, partsEP, Result.andThen]
  simp [ReflectliteValue.flagAddr, loadVar, isAgg, underlying, Tryz.underlying49, hb, Result.andThen, directEP, storeVar, Value.cells, storeCells, Addr.add]
  rw [run_store Tryz.prog W ta _ _ (by rfl)]
  simp [ht, hf]
/-! ### the callees' runs -/
/-! ### errors.as -/
def AsPost (w : World) (g : Nat) (t : TypeId) (v : Value) (w' : World) : Prop := Blk w' g t #[v] ∧ Chg (fun k => k = g) w w'
set_option maxHeartbeats 4000000 in
theorem as_hitE {w : World} {old : Value} {e a : Addr} {g0 : Nat} (hT : Blk w g0 49 #[old]) (ha : w.cell? a = some (.pointer (some ⟨g0, 0, none⟩))) (tv : Value) :
    Calls Tryz.prog 49 #[.iface 49 (.pointer (some e)), tv, .agg #[.pointer (some ⟨7, 53, none⟩), .pointer (some a), .int .u64 150], .iface 148 (.agg #[.pointer (some ⟨7, 49, none⟩)])] w fun ev w' => ev = .returned (.bool true) ∧ AsPost w g0 49 (.pointer (some e)) w' := by
  have f20 := @run_callFunc_extern Tryz.prog 86 _ ReflectliteType.typeOf Tryz.func86 (by kernel_rfl) (by kernel_rfl) (by kernel_rfl) (by kernel_rfl)
  have f47 := @run_callFunc_extern Tryz.prog 175 _ (ReflectliteType.relation "AssignableTo" ReflectliteType.assignableTo) Tryz.func175 (by kernel_rfl) (by kernel_rfl) (by kernel_rfl) (by kernel_rfl)
  have f22 := @run_callFunc_extern Tryz.prog 87 _ (ReflectliteValue.method (ReflectliteValue.valueError "reflectlite.Value.Elem" 0) ReflectliteValue.elem) Tryz.func87 (by kernel_rfl) (by kernel_rfl) (by kernel_rfl) (by kernel_rfl)
  have f16 := @run_callFunc_extern Tryz.prog 46 _ (fun args => ReflectliteValue.unpack (args.getD 0 (.tuple #[]))) Tryz.func46 (by kernel_rfl) (by kernel_rfl) (by kernel_rfl) (by kernel_rfl)
  have f23 := @run_callFunc_extern Tryz.prog 88 _ ReflectliteValue.set Tryz.func88 (by kernel_rfl) (by kernel_rfl) (by kernel_rfl) (by kernel_rfl)
  have tO := typeOfEP
  have mA := methodAssignableTo
  have aE := assignEE
  have v25 := valueOfEP
  obtain ⟨W1, hW1⟩ : ∃ W1, W1 = w.alloc (.cells #[.pointer (some ⟨7, 53, none⟩), .pointer (some a), .int .u64 150] 90) := ⟨_, rfl⟩
  have hal : a.block < w.heap.size := World.block_lt_of_cell? w _ ha
  have el := elemVPP a ⟨g0, 0, none⟩ W1 (by rw [hW1, World.cell?_alloc_lt _ _ a hal]; exact ha)
  have hs1 : W1.heap.size = w.heap.size + 1 := by rw [hW1]; simp
  have hT2 : Blk (W1.alloc (.cells #[.pointer (some e)] 49)) g0 49 #[old] := by rw [hW1]; exact (hT.alloc _).alloc _
  have hb2 : (W1.alloc (.cells #[.pointer (some e)] 49)).cell? ⟨w.heap.size + 1, 0, none⟩ = some (.pointer (some e)) := by rw [← hs1]; exact (Blk.new W1 49 _).cell 0
  have st := setEP ⟨g0, 0, none⟩ ⟨w.heap.size + 1, 0, none⟩ e old (W1.alloc (.cells #[.pointer (some e)] 49)) hb2 (hT2.cell 0) (hT2.frozen 0)
  rw [hW1] at el st hT2
  have HT2 := Lib.hid hT2
  clear hb2 hT2 hs1 hW1 hT ha
  go_enter Tryz.func49, Tryz.ntmps49
  go_wp2
  refine wp_loop_rounds 1 ?_
  rw [rounds_succ]
  go_wp2
  go_ret
  refine ⟨rfl, ?_, ?_⟩
  · exact HT2.out.set_ 0 _
  · exact (((Chg.refl (fun k => k = g0) w).alloc _).alloc _).setCell (p := ⟨g0, 0, none⟩) (.inl rfl) _
set_option maxHeartbeats 4000000 in
/-- A bare fault is no *fault.Error. -/
theorem as_missE {w : World} (k : Int) (a : Addr) (tv : Value) :
    Calls Tryz.prog 49 #[.iface 23 (.int .i64 k), tv, .agg #[.pointer (some ⟨7, 53, none⟩), .pointer (some a), .int .u64 150], .iface 148 (.agg #[.pointer (some ⟨7, 49, none⟩)])] w fun ev w' => ev = .returned (.bool false) ∧ Below w.heap.size w w' := by
  have f20 := @run_callFunc_extern Tryz.prog 86 _ ReflectliteType.typeOf Tryz.func86 (by kernel_rfl) (by kernel_rfl) (by kernel_rfl) (by kernel_rfl)
  have f47 := @run_callFunc_extern Tryz.prog 175 _ (ReflectliteType.relation "AssignableTo" ReflectliteType.assignableTo) Tryz.func175 (by kernel_rfl) (by kernel_rfl) (by kernel_rfl) (by kernel_rfl)
  have tO := typeOfF
  have mA := methodAssignableTo
  have aE := assignFE
  have t1 := taFA
  have t2 := taFU
  have t3 := taFV
  go_enter Tryz.func49, Tryz.ntmps49
  go_wp2
  refine wp_loop_rounds 1 ?_
  rw [rounds_succ]
  go_wp2
  go_ret
  exact ⟨rfl, (Below.refl _ _).alloc (Nat.le_refl _) _⟩
def Laid (w : World) : Prop := w.cell? ⟨0, 0, none⟩ = some (.iface 148 (.agg #[.pointer (some ⟨7, 51, none⟩)])) ∧ 0 < w.heap.size
theorem Laid.chg {w w' : World} {S : Nat → Prop} (h : Laid w) (hc : Chg S w w') (hn : ¬ S 0) : Laid w' :=
  ⟨by rw [World.cell?_of_block (w := w) (hc.block 0 h.2 hn)]; exact h.1, Nat.lt_of_lt_of_le h.2 hc.size⟩
theorem Laid.alloc {w : World} (h : Laid w) (o : Obj) : Laid (w.alloc o) := h.chg (S := fun _ => False) ((Chg.refl _ w).alloc o) (fun h => h)
theorem Laid.below {w w' : World} (h : Laid w) (hb : Below w.heap.size w w') : Laid w' := h.chg (S := fun _ => False) (Chg.of_below hb) (fun h => h)
theorem As_nil (t : Value) (w : World) : Calls Tryz.prog 20 #[.nilIface, t] w fun e w' => e = .returned (.bool false) ∧ w' = w := by
  go_enter Tryz.func20, Tryz.ntmps20
  go_wp2
  go_ret
  exact ⟨rfl, rfl⟩
set_option maxHeartbeats 4000000 in
theorem As_hitE {w : World} {g0 : Nat} {old : Value} {e : Addr} (hL : Laid w) (hT : Blk w g0 49 #[old]) :
    Calls Tryz.prog 20 #[.iface 49 (.pointer (some e)), .iface 53 (.pointer (some ⟨g0, 0, none⟩))] w fun ev w' => ev = .returned (.bool true) ∧ AsPost w g0 49 (.pointer (some e)) w' := by
  have f16 := @run_callFunc_extern Tryz.prog 46 _ (fun args => ReflectliteValue.unpack (args.getD 0 (.tuple #[]))) Tryz.func46 (by kernel_rfl) (by kernel_rfl) (by kernel_rfl) (by kernel_rfl)
  have f17 := @run_callFunc_extern Tryz.prog 47 _ (ReflectliteValue.methodAny (ReflectliteValue.valueError "reflectlite.Value.Type" 0) (fun t _ _ _ => ReflectliteType.toType t)) Tryz.func47 (by kernel_rfl) (by kernel_rfl) (by kernel_rfl) (by kernel_rfl)
  have f18 := @run_callFunc_extern Tryz.prog 48 _ (ReflectliteValue.method (ReflectliteValue.valueError "reflectlite.Value.IsNil" 0) ReflectliteValue.isNil) Tryz.func48 (by kernel_rfl) (by kernel_rfl) (by kernel_rfl) (by kernel_rfl)
  have f38 := @run_callFunc_extern Tryz.prog 164 _ (ReflectliteType.abiMethod fun t => do pure (.int .u8 (← Rtype.kind t))) Tryz.func164 (by kernel_rfl) (by kernel_rfl) (by kernel_rfl) (by kernel_rfl)
  have f49 := @run_callFunc_extern Tryz.prog 177 _ (ReflectliteType.method ReflectliteType.elem) Tryz.func177 (by kernel_rfl) (by kernel_rfl) (by kernel_rfl) (by kernel_rfl)
  have f50 := @run_callFunc_extern Tryz.prog 178 _ (ReflectliteType.relation "Implements" ReflectliteType.implements_) Tryz.func178 (by kernel_rfl) (by kernel_rfl) (by kernel_rfl) (by kernel_rfl)
  have f6 := valueOfPP
  have f7 := typePP
  have mK := methodKind
  have mE := methodElem
  have mI := methodImplements
  have k27 := kindPP
  have k25 := kindEP
  have e27 := elemPP
  have i25 := implementsEP
  obtain ⟨W1, hW1⟩ : ∃ W1, W1 = w.alloc (.cells #[.pointer (some ⟨g0, 0, none⟩)] 53) := ⟨_, rfl⟩
  obtain ⟨W2, hW2⟩ : ∃ W2, W2 = W1.alloc (.cells #[.pointer (some ⟨7, 53, none⟩), .pointer (some ⟨w.heap.size, 0, none⟩), .int .u64 150] 90) := ⟨_, rfl⟩
  have ha1 : W1.cell? ⟨w.heap.size, 0, none⟩ = some (.pointer (some ⟨g0, 0, none⟩)) := by rw [hW1]; exact (Blk.new w 53 _).cell 0
  have hs1 : W1.heap.size = w.heap.size + 1 := by rw [hW1]; simp
  have ha2 : W2.cell? ⟨w.heap.size, 0, none⟩ = some (.pointer (some ⟨g0, 0, none⟩)) := by rw [hW2, World.cell?_alloc_lt _ _ _ (by rw [hs1]; simp)]; exact ha1
  have hg := ((hL.alloc (.cells #[.pointer (some ⟨g0, 0, none⟩)] 53)).alloc (.cells #[.pointer (some ⟨7, 53, none⟩), .pointer (some ⟨w.heap.size, 0, none⟩), .int .u64 150] 90)).1
  have hT2 : Blk W2 g0 49 #[old] := by rw [hW2, hW1]; exact (hT.alloc _).alloc _
  have n8 := isNilPP ⟨w.heap.size, 0, none⟩ ⟨g0, 0, none⟩ W2 ha2
  have hAs := as_hitE (e := e) hT2 ha2 (.iface 53 (.pointer (some ⟨g0, 0, none⟩)))
  have hcc : Chg (fun k => k = g0) w W2 := by rw [hW2, hW1]; exact ((Chg.refl _ w).alloc _).alloc _
  rw [hW2, hW1] at n8 hAs hcc
  have HA := Lib.hid hAs
  have HC := Lib.hid hcc
  clear hAs hcc hT2 ha2 ha1 hs1 hW2 hW1 hL hT
  go_enter Tryz.func20, Tryz.ntmps20
  go_wp2_with ((go_at_call 49; refine (HA.out).mono ?_; rintro ev w' ⟨rfl, hp⟩))
  go_ret
  exact ⟨rfl, hp.1, HC.out.trans hp.2 (fun i hi => .inl hi)⟩
end Go.Proofs.YtamgbfkpblpfiaaGreatDoor
/-
  Chains of errors; errors.As at *api.Fault over a chain.
-/
namespace Go.Proofs.YtamgbfkpblpfiaaGreatDoor
open Go.RowKit Go.Extern.Stop Go.Stop Go.Extern
set_option linter.unusedVariables false
/-- An error of kind k, wrapped: its blocks and places, from without to within. -/
def Chain (w : World) (k : Int) : List (Nat × Int) → Value → Prop
  | [], v => v = .iface 23 (.int .i64 k)
  | (b, a) :: r, v => v = .iface 49 (.pointer (some ⟨b, 0, none⟩)) ∧ ∃ u, Blk w b 101 #[.int .i64 k, .int .i64 a, u] ∧ Chain w k r u
theorem Chain.chg {w w' : World} {S : Nat → Prop} (hc : Chg S w w') {k : Int} : ∀ {l : List (Nat × Int)} {v : Value}, Chain w k l v → (∀ p ∈ l, ¬ S p.1) → Chain w' k l v
  | [], _, h, _ => h
  | (b, a) :: r, v, ⟨e, u, hb, hr⟩, hn => ⟨e, u, hc.at_ hb (hn (b, a) (List.mem_cons_self ..)), Chain.chg hc hr fun p hp => hn p (List.mem_cons_of_mem _ hp)⟩
theorem Chain.lt {w : World} {k : Int} : ∀ {l : List (Nat × Int)} {v : Value}, Chain w k l v → ∀ p ∈ l, p.1 < w.heap.size
  | [], _, _, p, hp => absurd hp (List.not_mem_nil)
  | (b, a) :: r, v, ⟨e, u, hb, hr⟩, p, hp => by
    rcases List.mem_cons.1 hp with rfl | hp
    · exact hb.lt
    · exact Chain.lt hr p hp
theorem Chain.uniq {w : World} {k : Int} : ∀ {l l' : List (Nat × Int)} {v : Value}, Chain w k l v → Chain w k l' v → l = l'
  | [], [], _, _, _ => rfl
  | [], (b, a) :: r, v, h, h' => by have := h.symm.trans h'.1; cases this
  | (b, a) :: r, [], v, h, h' => by have := h'.symm.trans h.1; cases this
  | (b, a) :: r, (b', a') :: r', v, h, h' => by
    obtain ⟨e, u, hb, hr⟩ := h
    obtain ⟨e', u', hb', hr'⟩ := h'
    have hbb := e.symm.trans e'
    cases hbb
    have := hb.symm.trans hb'
    cases this
    rw [Chain.uniq hr hr']
open Classical in
noncomputable def clen (w : World) (k : Int) (v : Value) : Nat := if h : ∃ l, Chain w k l v then h.choose.length else 0
theorem clen_eq {w : World} {k : Int} {l : List (Nat × Int)} {v : Value} (h : Chain w k l v) : clen w k v = l.length := by
  have hh : ∃ l, Chain w k l v := ⟨l, h⟩
  unfold clen
  rw [dif_pos hh, Chain.uniq hh.choose_spec h]
theorem Chain.iface {w : World} {k : Int} : ∀ {l : List (Nat × Int)} {v : Value}, Chain w k l v → ∃ t x, v = .iface t x
  | [], _, h => ⟨_, _, h⟩
  | (b, a) :: r, v, h => ⟨_, _, h.1⟩
/-! ### reflectlite at *api.Fault -/
theorem partsFP (a : Addr) (w : World) : (ReflectliteValue.parts (.agg #[.pointer (some ⟨7, 99, none⟩), .pointer (some a), .int .u64 150])).run Tryz.prog w = .ok (some (99, a, 150)) w := by kernel_rfl
theorem isNilFP (a p : Addr) (W : World) (ha : W.cell? a = some (.pointer (some p))) :
    (ReflectliteValue.method (ReflectliteValue.valueError "reflectlite.Value.IsNil" 0) ReflectliteValue.isNil #[.agg #[.pointer (some ⟨7, 99, none⟩), .pointer (some a), .int .u64 150]]).run Tryz.prog W = .ok (.bool false) W := by
  rw [rlm]
  simp only [Sem.run_bind, partsFP, Result.andThen]
  simp [ReflectliteValue.isNil, loadVar, isAgg, underlying, Tryz.underlying99, ha, Result.andThen]
theorem elemOfFP (w : World) : (Rtype.elem? 99).run Tryz.prog w = .ok (some 23) w := by kernel_rfl
theorem mkFT (p : Addr) (w : World) : (ReflectliteValue.mk 23 p ReflectliteValue.flagAddr).run Tryz.prog w = .ok (.agg #[.pointer (some ⟨7, 23, none⟩), .pointer (some p), .int .u64 386]) w := by kernel_rfl
theorem elemVFP (a p : Addr) (W : World) (ha : W.cell? a = some (.pointer (some p))) :
    (ReflectliteValue.method (ReflectliteValue.valueError "reflectlite.Value.Elem" 0) ReflectliteValue.elem #[.agg #[.pointer (some ⟨7, 99, none⟩), .pointer (some a), .int .u64 150]]).run Tryz.prog W
      = .ok (.agg #[.pointer (some ⟨7, 23, none⟩), .pointer (some p), .int .u64 386]) W := by
  rw [rlm]
  simp only [Sem.run_bind, partsFP, Result.andThen]
  simp [ReflectliteValue.elem, loadVar, isAgg, underlying, Tryz.underlying99, ha, Result.andThen, elemOfFP, mkFT]
theorem partsFTa (a : Addr) (w : World) : (ReflectliteValue.parts (.agg #[.pointer (some ⟨7, 23, none⟩), .pointer (some a), .int .u64 386])).run Tryz.prog w = .ok (some (23, a, 386)) w := by kernel_rfl
theorem partsFTb (a : Addr) (w : World) : (ReflectliteValue.parts (.agg #[.pointer (some ⟨7, 23, none⟩), .pointer (some a), .int .u64 130])).run Tryz.prog w = .ok (some (23, a, 130)) w := by kernel_rfl
theorem directFT (w : World) : (Rtype.directlyAssignable 23 23).run Tryz.prog w = .ok true w := by kernel_rfl
theorem setFT (ta b : Addr) (e : Int) (old : Value) (W : World) (hb : W.cell? b = some (.int .i64 e)) (ht : W.cell? ta = some old) (hf : W.frozen? ta = false) :
    (ReflectliteValue.set #[.agg #[.pointer (some ⟨7, 23, none⟩), .pointer (some ta), .int .u64 386], .agg #[.pointer (some ⟨7, 23, none⟩), .pointer (some b), .int .u64 130]]).run Tryz.prog W
      = .ok (.tuple #[]) (W.setCell ta (.int .i64 e)) := by
  rw [rls]
  simp only [Sem.run_bind, partsFTa, partsFTb, Result.andThen]
  simp [ReflectliteValue.flagAddr, loadVar, isAgg, underlying, Tryz.underlying23, hb, Result.andThen, directFT, storeVar, Value.cells, storeCells, Addr.add]
  rw [run_store Tryz.prog W ta _ _ (by rfl)]
  simp [ht, hf]
end Go.Proofs.YtamgbfkpblpfiaaGreatDoor
/-
  errors.as and errors.As at *api.Fault, walked over a chain.
-/
namespace Go.Proofs.YtamgbfkpblpfiaaGreatDoor
open Go.RowKit Go.Extern.Stop Go.Stop Go.Extern
set_option linter.unusedVariables false
theorem unwrap_ {w : World} {b : Nat} {c0 c1 u : Value} (hB : Blk w b 101 #[c0, c1, u]) :
    Calls Tryz.prog 169 #[.pointer (some ⟨b, 0, none⟩)] w fun e w' => e = .returned u ∧ w = w' := by
  have h2 : w.cell? ⟨b, 2, none⟩ = some u := hB.cell 2
  clear hB
  go_enter Tryz.func169, Tryz.ntmps169
  go_wp2
  go_ret
  exact ⟨rfl, rfl⟩
set_option maxHeartbeats 4000000 in
theorem as_F {w : World} {old v : Value} {k : Int} {a : Addr} {g0 : Nat} {l : List (Nat × Int)} (hT : Blk w g0 23 #[old]) (ha : w.cell? a = some (.pointer (some ⟨g0, 0, none⟩))) (hl : Chain w k l v) (tv : Value) :
    Calls Tryz.prog 49 #[v, tv, .agg #[.pointer (some ⟨7, 99, none⟩), .pointer (some a), .int .u64 150], .iface 148 (.agg #[.pointer (some ⟨7, 23, none⟩)])] w fun ev w' => ev = .returned (.bool true) ∧ AsPost w g0 23 (.int .i64 k) w' := by
  have f20 := @run_callFunc_extern Tryz.prog 86 _ ReflectliteType.typeOf Tryz.func86 (by kernel_rfl) (by kernel_rfl) (by kernel_rfl) (by kernel_rfl)
  have f47 := @run_callFunc_extern Tryz.prog 175 _ (ReflectliteType.relation "AssignableTo" ReflectliteType.assignableTo) Tryz.func175 (by kernel_rfl) (by kernel_rfl) (by kernel_rfl) (by kernel_rfl)
  have f22 := @run_callFunc_extern Tryz.prog 87 _ (ReflectliteValue.method (ReflectliteValue.valueError "reflectlite.Value.Elem" 0) ReflectliteValue.elem) Tryz.func87 (by kernel_rfl) (by kernel_rfl) (by kernel_rfl) (by kernel_rfl)
  have f16 := @run_callFunc_extern Tryz.prog 46 _ (fun args => ReflectliteValue.unpack (args.getD 0 (.tuple #[]))) Tryz.func46 (by kernel_rfl) (by kernel_rfl) (by kernel_rfl) (by kernel_rfl)
  have f23 := @run_callFunc_extern Tryz.prog 88 _ ReflectliteValue.set Tryz.func88 (by kernel_rfl) (by kernel_rfl) (by kernel_rfl) (by kernel_rfl)
  have tE := typeOfEP
  have tO := typeOfF
  have mA := methodAssignableTo
  have mU := methodUnwrap
  have aE := assignEF
  have aF := assignFF
  have t1 := taEA
  have t2 := taEU
  have v25 := valueOfFT
  obtain ⟨W1, hW1⟩ : ∃ W1, W1 = w.alloc (.cells #[.pointer (some ⟨7, 99, none⟩), .pointer (some a), .int .u64 150] 90) := ⟨_, rfl⟩
  have hal : a.block < w.heap.size := World.block_lt_of_cell? w _ ha
  have el := elemVFP a ⟨g0, 0, none⟩ W1 (by rw [hW1, World.cell?_alloc_lt _ _ a hal]; exact ha)
  have hs1 : W1.heap.size = w.heap.size + 1 := by rw [hW1]; simp
  have hT2 : Blk (W1.alloc (.cells #[.int .i64 k] 23)) g0 23 #[old] := by rw [hW1]; exact (hT.alloc _).alloc _
  have hb2 : (W1.alloc (.cells #[.int .i64 k] 23)).cell? ⟨w.heap.size + 1, 0, none⟩ = some (.int .i64 k) := by rw [← hs1]; exact (Blk.new W1 23 _).cell 0
  have st := setFT ⟨g0, 0, none⟩ ⟨w.heap.size + 1, 0, none⟩ k old (W1.alloc (.cells #[.int .i64 k] 23)) hb2 (hT2.cell 0) (hT2.frozen 0)
  have HL : Hid (Chain W1 k l v) := Lib.hid (by rw [hW1]; exact hl.chg (S := fun _ => False) ((Chg.refl _ w).alloc _) (fun _ _ h => h))
  rw [hW1] at el st hT2 HL
  have HT2 := Lib.hid hT2
  clear hb2 hT2 hs1 hW1 hT ha hl
  go_enter Tryz.func49, Tryz.ntmps49
  go_wp2
  go_loopw [0] (fun x wr => wr = w.alloc (.cells #[.pointer (some ⟨7, 99, none⟩), .pointer (some a), .int .u64 150] 90) ∧ ∃ q, Chain (w.alloc (.cells #[.pointer (some ⟨7, 99, none⟩), .pointer (some a), .int .u64 150] 90)) k q x) (fun x wr => clen wr k x)
  case atStart => exact ⟨rfl, l, HL.out⟩
  case round =>
    obtain ⟨rfl, q, hq⟩ := hrel
    cases q with
    | nil =>
      have e := hq
      unfold Chain at e
      subst e
      clear hq
      go_wp2
      go_ret
      refine ⟨rfl, ?_, ?_⟩
      · exact HT2.out.set_ 0 _
      · exact (((Chg.refl (fun k => k = g0) w).alloc _).alloc _).setCell (p := ⟨g0, 0, none⟩) (.inl rfl) _
    | cons p r =>
      obtain ⟨b, pa⟩ := p
      have hcl := clen_eq hq
      obtain ⟨e, u, hb, hr⟩ := hq
      subst e
      have hcr := clen_eq hr
      obtain ⟨ut, ux, hu⟩ := hr.iface
      subst hu
      have HR := Lib.hid hr
      have HC := Lib.hid hcl
      have HCR := Lib.hid hcr
      have HU := Lib.hid (unwrap_ hb)
      clear hr hcl hcr hb
      go_wp2_with ((go_at_call 169; refine (HU.out).mono ?_; rintro ev w' ⟨rfl, rfl⟩))
      go_roundw
      case rel => exact ⟨trivial, r, HR.out⟩
      case measure => rw [HC.out, HCR.out]; simp
set_option maxHeartbeats 4000000 in
theorem As_F {w : World} {g0 : Nat} {old v : Value} {k : Int} {l : List (Nat × Int)} (hL : Laid w) (hT : Blk w g0 23 #[old]) (hl : Chain w k l v) :
    Calls Tryz.prog 20 #[v, .iface 99 (.pointer (some ⟨g0, 0, none⟩))] w fun ev w' => ev = .returned (.bool true) ∧ AsPost w g0 23 (.int .i64 k) w' := by
  have f16 := @run_callFunc_extern Tryz.prog 46 _ (fun args => ReflectliteValue.unpack (args.getD 0 (.tuple #[]))) Tryz.func46 (by kernel_rfl) (by kernel_rfl) (by kernel_rfl) (by kernel_rfl)
  have f17 := @run_callFunc_extern Tryz.prog 47 _ (ReflectliteValue.methodAny (ReflectliteValue.valueError "reflectlite.Value.Type" 0) (fun t _ _ _ => ReflectliteType.toType t)) Tryz.func47 (by kernel_rfl) (by kernel_rfl) (by kernel_rfl) (by kernel_rfl)
  have f18 := @run_callFunc_extern Tryz.prog 48 _ (ReflectliteValue.method (ReflectliteValue.valueError "reflectlite.Value.IsNil" 0) ReflectliteValue.isNil) Tryz.func48 (by kernel_rfl) (by kernel_rfl) (by kernel_rfl) (by kernel_rfl)
  have f38 := @run_callFunc_extern Tryz.prog 164 _ (ReflectliteType.abiMethod fun t => do pure (.int .u8 (← Rtype.kind t))) Tryz.func164 (by kernel_rfl) (by kernel_rfl) (by kernel_rfl) (by kernel_rfl)
  have f49 := @run_callFunc_extern Tryz.prog 177 _ (ReflectliteType.method ReflectliteType.elem) Tryz.func177 (by kernel_rfl) (by kernel_rfl) (by kernel_rfl) (by kernel_rfl)
  have f50 := @run_callFunc_extern Tryz.prog 178 _ (ReflectliteType.relation "Implements" ReflectliteType.implements_) Tryz.func178 (by kernel_rfl) (by kernel_rfl) (by kernel_rfl) (by kernel_rfl)
  have f6 := valueOfFP
  have f7 := typeFP
  have mK := methodKind
  have mE := methodElem
  have mI := methodImplements
  have k27 := kindFP
  have k25 := kindFT
  have e27 := elemFP
  have i25 := implementsFT
  obtain ⟨W1, hW1⟩ : ∃ W1, W1 = w.alloc (.cells #[.pointer (some ⟨g0, 0, none⟩)] 99) := ⟨_, rfl⟩
  obtain ⟨W2, hW2⟩ : ∃ W2, W2 = W1.alloc (.cells #[.pointer (some ⟨7, 99, none⟩), .pointer (some ⟨w.heap.size, 0, none⟩), .int .u64 150] 90) := ⟨_, rfl⟩
  have ha1 : W1.cell? ⟨w.heap.size, 0, none⟩ = some (.pointer (some ⟨g0, 0, none⟩)) := by rw [hW1]; exact (Blk.new w 99 _).cell 0
  have hs1 : W1.heap.size = w.heap.size + 1 := by rw [hW1]; simp
  have ha2 : W2.cell? ⟨w.heap.size, 0, none⟩ = some (.pointer (some ⟨g0, 0, none⟩)) := by rw [hW2, World.cell?_alloc_lt _ _ _ (by rw [hs1]; simp)]; exact ha1
  have hg := ((hL.alloc (.cells #[.pointer (some ⟨g0, 0, none⟩)] 99)).alloc (.cells #[.pointer (some ⟨7, 99, none⟩), .pointer (some ⟨w.heap.size, 0, none⟩), .int .u64 150] 90)).1
  have hT2 : Blk W2 g0 23 #[old] := by rw [hW2, hW1]; exact (hT.alloc _).alloc _
  have n8 := isNilFP ⟨w.heap.size, 0, none⟩ ⟨g0, 0, none⟩ W2 ha2
  have hcc : Chg (fun k => k = g0) w W2 := by rw [hW2, hW1]; exact ((Chg.refl _ w).alloc _).alloc _
  have hc0 : Chg (fun _ => False) w W2 := by rw [hW2, hW1]; exact ((Chg.refl _ w).alloc _).alloc _
  have hAs := as_F hT2 ha2 (hl.chg hc0 (fun _ _ h => h)) (.iface 99 (.pointer (some ⟨g0, 0, none⟩)))
  rw [hW2, hW1] at n8 hAs hcc
  have HA := Lib.hid hAs
  have HC := Lib.hid hcc
  obtain ⟨vt, vx, hv⟩ := hl.iface
  subst hv
  clear hAs hcc hT2 ha2 ha1 hs1 hW2 hW1 hL hT hc0 hl
  go_enter Tryz.func20, Tryz.ntmps20
  go_wp2_with ((go_at_call 49; refine (HA.out).mono ?_; rintro ev w' ⟨rfl, hp⟩))
  go_ret
  exact ⟨rfl, hp.1, HC.out.trans hp.2 (fun i hi => .inl hi)⟩
set_option maxHeartbeats 4000000 in
theorem As_missE {w : World} {g0 : Nat} {old : Value} {k : Int} (hL : Laid w) (hT : Blk w g0 49 #[old]) :
    Calls Tryz.prog 20 #[.iface 23 (.int .i64 k), .iface 53 (.pointer (some ⟨g0, 0, none⟩))] w fun ev w' => ev = .returned (.bool false) ∧ Below w.heap.size w w' := by
  have f16 := @run_callFunc_extern Tryz.prog 46 _ (fun args => ReflectliteValue.unpack (args.getD 0 (.tuple #[]))) Tryz.func46 (by kernel_rfl) (by kernel_rfl) (by kernel_rfl) (by kernel_rfl)
  have f17 := @run_callFunc_extern Tryz.prog 47 _ (ReflectliteValue.methodAny (ReflectliteValue.valueError "reflectlite.Value.Type" 0) (fun t _ _ _ => ReflectliteType.toType t)) Tryz.func47 (by kernel_rfl) (by kernel_rfl) (by kernel_rfl) (by kernel_rfl)
  have f18 := @run_callFunc_extern Tryz.prog 48 _ (ReflectliteValue.method (ReflectliteValue.valueError "reflectlite.Value.IsNil" 0) ReflectliteValue.isNil) Tryz.func48 (by kernel_rfl) (by kernel_rfl) (by kernel_rfl) (by kernel_rfl)
  have f38 := @run_callFunc_extern Tryz.prog 164 _ (ReflectliteType.abiMethod fun t => do pure (.int .u8 (← Rtype.kind t))) Tryz.func164 (by kernel_rfl) (by kernel_rfl) (by kernel_rfl) (by kernel_rfl)
  have f49 := @run_callFunc_extern Tryz.prog 177 _ (ReflectliteType.method ReflectliteType.elem) Tryz.func177 (by kernel_rfl) (by kernel_rfl) (by kernel_rfl) (by kernel_rfl)
  have f50 := @run_callFunc_extern Tryz.prog 178 _ (ReflectliteType.relation "Implements" ReflectliteType.implements_) Tryz.func178 (by kernel_rfl) (by kernel_rfl) (by kernel_rfl) (by kernel_rfl)
  have f6 := valueOfPP
  have f7 := typePP
  have mK := methodKind
  have mE := methodElem
  have mI := methodImplements
  have k27 := kindPP
  have k25 := kindEP
  have e27 := elemPP
  have i25 := implementsEP
  obtain ⟨W1, hW1⟩ : ∃ W1, W1 = w.alloc (.cells #[.pointer (some ⟨g0, 0, none⟩)] 53) := ⟨_, rfl⟩
  obtain ⟨W2, hW2⟩ : ∃ W2, W2 = W1.alloc (.cells #[.pointer (some ⟨7, 53, none⟩), .pointer (some ⟨w.heap.size, 0, none⟩), .int .u64 150] 90) := ⟨_, rfl⟩
  have ha1 : W1.cell? ⟨w.heap.size, 0, none⟩ = some (.pointer (some ⟨g0, 0, none⟩)) := by rw [hW1]; exact (Blk.new w 53 _).cell 0
  have hs1 : W1.heap.size = w.heap.size + 1 := by rw [hW1]; simp
  have ha2 : W2.cell? ⟨w.heap.size, 0, none⟩ = some (.pointer (some ⟨g0, 0, none⟩)) := by rw [hW2, World.cell?_alloc_lt _ _ _ (by rw [hs1]; simp)]; exact ha1
  have hg := ((hL.alloc (.cells #[.pointer (some ⟨g0, 0, none⟩)] 53)).alloc (.cells #[.pointer (some ⟨7, 53, none⟩), .pointer (some ⟨w.heap.size, 0, none⟩), .int .u64 150] 90)).1
  have n8 := isNilPP ⟨w.heap.size, 0, none⟩ ⟨g0, 0, none⟩ W2 ha2
  have hcc : Below w.heap.size w W2 := by rw [hW2, hW1]; exact ((Below.refl _ _).alloc (Nat.le_refl _) _).alloc (by simp) _
  have hAs := as_missE (w := W2) k ⟨w.heap.size, 0, none⟩ (.iface 53 (.pointer (some ⟨g0, 0, none⟩)))
  have hAs2 := hAs.mono fun e w' h => (⟨h.1, hcc.trans (h.2.mono hcc.size)⟩ : _ ∧ Below w.heap.size w w')
  rw [hW2, hW1] at n8 hAs2
  have HA := Lib.hid hAs2
  clear hAs hAs2 hcc ha2 ha1 hs1 hW2 hW1 hL hT
  go_enter Tryz.func20, Tryz.ntmps20
  go_wp2_with ((go_at_call 49; refine (HA.out).mono ?_; rintro ev w' ⟨rfl, hp⟩))
  go_ret
  exact ⟨rfl, hp⟩
end Go.Proofs.YtamgbfkpblpfiaaGreatDoor
