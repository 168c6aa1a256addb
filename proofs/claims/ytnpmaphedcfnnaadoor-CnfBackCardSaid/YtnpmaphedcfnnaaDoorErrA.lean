/-
  errors.As at this program's targets: closed facts on the model's entries for reflectlite.
-/
import Derived.Test.YtnpmaphedcfnnaaDoorProg
import Derived.WalkKit
import Derived.LaidEql
import Derived.Stop.Asserts
import Derived.RowKitTokens
import Derived.Lib.Hide
import Derived.Outline
namespace Go.Proofs.YtnpmaphedcfnnaaDoor
open Go.RowKit Go.Extern.Stop Go.Stop Go.Extern
set_option linter.unusedVariables false
/-! ### at **fault.Error -/
theorem valueOfPP (t : Addr) (w : World) : (ReflectliteValue.unpack (.iface 121 (.pointer (some t)))).run Tryd.prog w
    = .ok (.agg #[.pointer (some ⟨4, 121, none⟩), .pointer (some ⟨w.heap.size, 0, none⟩), .int .u64 150]) (w.alloc (.cells #[.pointer (some t)] 121)) := by kernel_rfl
theorem typePP (a : Addr) (w : World) : (ReflectliteValue.methodAny (ReflectliteValue.valueError "reflectlite.Value.Type" 0) (fun t _ _ _ => ReflectliteType.toType t) #[.agg #[.pointer (some ⟨4, 121, none⟩), .pointer (some a), .int .u64 150]]).run Tryd.prog w
    = .ok (.iface 151 (.agg #[.pointer (some ⟨4, 121, none⟩)])) w := by kernel_rfl
theorem kindPP (w : World) : ((ReflectliteType.abiMethod fun t => (fun a : Nat => Value.int IntKind.u8 (a : Int)) <$> Rtype.kind t) #[.pointer (some ⟨4, 121, none⟩)]).run Tryd.prog w = .ok (.int .u8 22) w := by kernel_rfl
theorem kindEP (w : World) : ((ReflectliteType.abiMethod fun t => (fun a : Nat => Value.int IntKind.u8 (a : Int)) <$> Rtype.kind t) #[.pointer (some ⟨4, 120, none⟩)]).run Tryd.prog w = .ok (.int .u8 22) w := by kernel_rfl
theorem elemPP (w : World) : (ReflectliteType.method ReflectliteType.elem #[.agg #[.pointer (some ⟨4, 121, none⟩)]]).run Tryd.prog w = .ok (.iface 151 (.agg #[.pointer (some ⟨4, 120, none⟩)])) w := by kernel_rfl
theorem implementsEP (w : World) : (ReflectliteType.relation "Implements" ReflectliteType.implements_ #[.agg #[.pointer (some ⟨4, 120, none⟩)], .iface 151 (.agg #[.pointer (some ⟨4, 79, none⟩)])]).run Tryd.prog w = .ok (.bool true) w := by kernel_rfl
theorem typeOfEP (v : Value) (w : World) : (ReflectliteType.typeOf #[.iface 120 v]).run Tryd.prog w = .ok (.iface 151 (.agg #[.pointer (some ⟨4, 120, none⟩)])) w := by kernel_rfl
theorem typeOfF (v : Value) (w : World) : (ReflectliteType.typeOf #[.iface 48 v]).run Tryd.prog w = .ok (.iface 151 (.agg #[.pointer (some ⟨4, 48, none⟩)])) w := by kernel_rfl
theorem assignEE (w : World) : (ReflectliteType.relation "AssignableTo" ReflectliteType.assignableTo #[.agg #[.pointer (some ⟨4, 120, none⟩)], .iface 151 (.agg #[.pointer (some ⟨4, 120, none⟩)])]).run Tryd.prog w = .ok (.bool true) w := by kernel_rfl
theorem assignFE (w : World) : (ReflectliteType.relation "AssignableTo" ReflectliteType.assignableTo #[.agg #[.pointer (some ⟨4, 48, none⟩)], .iface 151 (.agg #[.pointer (some ⟨4, 120, none⟩)])]).run Tryd.prog w = .ok (.bool false) w := by kernel_rfl
theorem assignEF (w : World) : (ReflectliteType.relation "AssignableTo" ReflectliteType.assignableTo #[.agg #[.pointer (some ⟨4, 120, none⟩)], .iface 151 (.agg #[.pointer (some ⟨4, 48, none⟩)])]).run Tryd.prog w = .ok (.bool false) w := by kernel_rfl
theorem assignFF (w : World) : (ReflectliteType.relation "AssignableTo" ReflectliteType.assignableTo #[.agg #[.pointer (some ⟨4, 48, none⟩)], .iface 151 (.agg #[.pointer (some ⟨4, 48, none⟩)])]).run Tryd.prog w = .ok (.bool true) w := by kernel_rfl
theorem valueOfEP (e : Addr) (w : World) : (ReflectliteValue.unpack (.iface 120 (.pointer (some e)))).run Tryd.prog w
    = .ok (.agg #[.pointer (some ⟨4, 120, none⟩), .pointer (some ⟨w.heap.size, 0, none⟩), .int .u64 150]) (w.alloc (.cells #[.pointer (some e)] 120)) := by kernel_rfl
/-! ### at *api.Fault -/
theorem valueOfFP (t : Addr) (w : World) : (ReflectliteValue.unpack (.iface 119 (.pointer (some t)))).run Tryd.prog w
    = .ok (.agg #[.pointer (some ⟨4, 119, none⟩), .pointer (some ⟨w.heap.size, 0, none⟩), .int .u64 150]) (w.alloc (.cells #[.pointer (some t)] 119)) := by kernel_rfl
theorem typeFP (a : Addr) (w : World) : (ReflectliteValue.methodAny (ReflectliteValue.valueError "reflectlite.Value.Type" 0) (fun t _ _ _ => ReflectliteType.toType t) #[.agg #[.pointer (some ⟨4, 119, none⟩), .pointer (some a), .int .u64 150]]).run Tryd.prog w
    = .ok (.iface 151 (.agg #[.pointer (some ⟨4, 119, none⟩)])) w := by kernel_rfl
theorem kindFP (w : World) : ((ReflectliteType.abiMethod fun t => (fun a : Nat => Value.int IntKind.u8 (a : Int)) <$> Rtype.kind t) #[.pointer (some ⟨4, 119, none⟩)]).run Tryd.prog w = .ok (.int .u8 22) w := by kernel_rfl
theorem kindFT (w : World) : ((ReflectliteType.abiMethod fun t => (fun a : Nat => Value.int IntKind.u8 (a : Int)) <$> Rtype.kind t) #[.pointer (some ⟨4, 48, none⟩)]).run Tryd.prog w = .ok (.int .u8 2) w := by kernel_rfl
theorem elemFP (w : World) : (ReflectliteType.method ReflectliteType.elem #[.agg #[.pointer (some ⟨4, 119, none⟩)]]).run Tryd.prog w = .ok (.iface 151 (.agg #[.pointer (some ⟨4, 48, none⟩)])) w := by kernel_rfl
theorem implementsFT (w : World) : (ReflectliteType.relation "Implements" ReflectliteType.implements_ #[.agg #[.pointer (some ⟨4, 48, none⟩)], .iface 151 (.agg #[.pointer (some ⟨4, 79, none⟩)])]).run Tryd.prog w = .ok (.bool true) w := by kernel_rfl
theorem valueOfFT (e : Int) (w : World) : (ReflectliteValue.unpack (.iface 48 (.int .i64 e))).run Tryd.prog w
    = .ok (.agg #[.pointer (some ⟨4, 48, none⟩), .pointer (some ⟨w.heap.size, 0, none⟩), .int .u64 130]) (w.alloc (.cells #[.int .i64 e] 48)) := by kernel_rfl
theorem comparableFT (w : World) : (ReflectliteType.method (fun t => do Rtype.noPackHeld "Comparable" t; pure (.bool (← typeInfo t).comparable)) #[.agg #[.pointer (some ⟨4, 48, none⟩)]]).run Tryd.prog w = .ok (.bool true) w := by kernel_rfl
/-! ### the methods of reflectlite's rtype -/
theorem methodKind (h : Value) (w : World) : (Go.method 300 151 (.agg #[h]) "Kind").run Tryd.prog w = .ok (118, h) w := by kernel_rfl
theorem methodElem (h : Value) (w : World) : (Go.method 300 151 (.agg #[h]) "Elem").run Tryd.prog w = .ok (132, .agg #[h]) w := by kernel_rfl
theorem methodImplements (h : Value) (w : World) : (Go.method 300 151 (.agg #[h]) "Implements").run Tryd.prog w = .ok (133, .agg #[h]) w := by kernel_rfl
theorem methodAssignableTo (h : Value) (w : World) : (Go.method 300 151 (.agg #[h]) "AssignableTo").run Tryd.prog w = .ok (130, .agg #[h]) w := by kernel_rfl
theorem methodComparable (h : Value) (w : World) : (Go.method 300 151 (.agg #[h]) "Comparable").run Tryd.prog w = .ok (131, .agg #[h]) w := by kernel_rfl
theorem methodUnwrap (h : Value) (w : World) : (Go.method 300 120 h "Unwrap").run Tryd.prog w = .ok (125, h) w := by kernel_rfl
/-! ### type assertions to interfaces -/
theorem taEA (v : Value) (w : World) : (Instr.typeAssert (.iface 120 v) 79 156 true).run Tryd.prog w = .ok (.tuple #[.nilIface, .bool false]) w := run_typeAssert_lacksB Tryd.underlying156 (by kernel_rfl) (by kernel_rfl) v _ w
theorem taEU (v : Value) (w : World) : (Instr.typeAssert (.iface 120 v) 79 159 true).run Tryd.prog w = .ok (.tuple #[.iface 120 v, .bool true]) w := run_typeAssert_hasB Tryd.underlying159 (by kernel_rfl) v _ w
theorem taFA (v : Value) (w : World) : (Instr.typeAssert (.iface 48 v) 79 156 true).run Tryd.prog w = .ok (.tuple #[.nilIface, .bool false]) w := run_typeAssert_lacksB Tryd.underlying156 (by kernel_rfl) (by kernel_rfl) v _ w
theorem taFU (v : Value) (w : World) : (Instr.typeAssert (.iface 48 v) 79 159 true).run Tryd.prog w = .ok (.tuple #[.nilIface, .bool false]) w := run_typeAssert_lacksB Tryd.underlying159 (by kernel_rfl) (by kernel_rfl) v _ w
theorem taFV (v : Value) (w : World) : (Instr.typeAssert (.iface 48 v) 79 161 true).run Tryd.prog w = .ok (.tuple #[.nilIface, .bool false]) w := run_typeAssert_lacksB Tryd.underlying161 (by kernel_rfl) (by kernel_rfl) v _ w
end Go.Proofs.YtnpmaphedcfnnaaDoor
