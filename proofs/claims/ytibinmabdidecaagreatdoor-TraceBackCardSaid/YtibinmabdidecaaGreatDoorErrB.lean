/-
  errors.As, walked: at **fault.Error.
-/
import Derived.Test.YtibinmabdidecaaGreatDoorErrA
import Derived.Test.YtibinmabdidecaaGreatDoorFoot
namespace Go.Proofs.YtibinmabdidecaaGreatDoor
open Go.RowKit Go.Extern.Stop Go.Stop Go.Extern
set_option linter.unusedVariables false
theorem rlm (z : Sem Value) (f : TypeId → Addr → Nat → Nat → Sem Value) (v : Value) :
    ReflectliteValue.method z f #[v] = (do match ← ReflectliteValue.parts v with | none => z | some (t, a, fl) => f t a fl (fl % 32)) := rfl
theorem partsPP (a : Addr) (w : World) : (ReflectliteValue.parts (.agg #[.pointer (some ⟨7, 90, none⟩), .pointer (some a), .int .u64 150])).run Tryz.prog w = .ok (some (90, a, 150)) w := by kernel_rfl
theorem isNilPP (a p : Addr) (W : World) (ha : W.cell? a = some (.pointer (some p))) :
    (ReflectliteValue.method (ReflectliteValue.valueError "reflectlite.Value.IsNil" 0) ReflectliteValue.isNil #[.agg #[.pointer (some ⟨7, 90, none⟩), .pointer (some a), .int .u64 150]]).run Tryz.prog W = .ok (.bool false) W := by
  rw [rlm]
  simp only [Sem.run_bind, partsPP, Result.andThen]
  simp [ReflectliteValue.isNil, loadVar, isAgg, underlying, Tryz.underlying90, ha, Result.andThen]
theorem elemOfPP (w : World) : (Rtype.elem? 90).run Tryz.prog w = .ok (some 89) w := by kernel_rfl
theorem mkEP (p : Addr) (w : World) : (ReflectliteValue.mk 89 p ReflectliteValue.flagAddr).run Tryz.prog w = .ok (.agg #[.pointer (some ⟨7, 89, none⟩), .pointer (some p), .int .u64 406]) w := by kernel_rfl
theorem elemVPP (a p : Addr) (W : World) (ha : W.cell? a = some (.pointer (some p))) :
    (ReflectliteValue.method (ReflectliteValue.valueError "reflectlite.Value.Elem" 0) ReflectliteValue.elem #[.agg #[.pointer (some ⟨7, 90, none⟩), .pointer (some a), .int .u64 150]]).run Tryz.prog W
      = .ok (.agg #[.pointer (some ⟨7, 89, none⟩), .pointer (some p), .int .u64 406]) W := by
  rw [rlm]
  simp only [Sem.run_bind, partsPP, Result.andThen]
  simp [ReflectliteValue.elem, loadVar, isAgg, underlying, Tryz.underlying90, ha, Result.andThen, elemOfPP, mkEP]
theorem rls (v x : Value) : ReflectliteValue.set #[v, x] = (do
    let (some (dst, a, fl), some (src, b, _)) := (← ReflectliteValue.parts v, ← ReflectliteValue.parts x)
      | unsupported (.noEntry "extern/(internal/reflectlite.Value).Set.zeroValue")
    if fl / ReflectliteValue.flagAddr % 2 == 0 then unsupported (.noEntry "extern/(internal/reflectlite.Value).Set.unaddressable")
    let val ← loadVar src b
    if ← Rtype.directlyAssignable dst src then storeVar dst a val
    else if ← Rtype.implements dst src then
      if (← Rtype.kind src) == 20 then
        match val with
        | .nilIface => unsupported (.noEntry "extern/reflectlite: a nil value of one interface type handed on as a value of another")
        | _ => storeVar dst a val
      else storeVar dst a (.iface src val)
    else panicString ("reflectlite.Set: value of type " ++ (← Rtype.spelt src) ++ " is not assignable to type " ++ (← Rtype.spelt dst))
    pure (.tuple #[])) := rfl
theorem partsEPa (a : Addr) (w : World) : (ReflectliteValue.parts (.agg #[.pointer (some ⟨7, 89, none⟩), .pointer (some a), .int .u64 406])).run Tryz.prog w = .ok (some (89, a, 406)) w := by kernel_rfl
theorem partsEP (a : Addr) (w : World) : (ReflectliteValue.parts (.agg #[.pointer (some ⟨7, 89, none⟩), .pointer (some a), .int .u64 150])).run Tryz.prog w = .ok (some (89, a, 150)) w := by kernel_rfl
theorem directEP (w : World) : (Rtype.directlyAssignable 89 89).run Tryz.prog w = .ok true w := by kernel_rfl
theorem setEP (ta b e : Addr) (old : Value) (W : World) (hb : W.cell? b = some (.pointer (some e))) (ht : W.cell? ta = some old) (hf : W.frozen? ta = false) :
    (ReflectliteValue.set #[.agg #[.pointer (some ⟨7, 89, none⟩), .pointer (some ta), .int .u64 406], .agg #[.pointer (some ⟨7, 89, none⟩), .pointer (some b), .int .u64 150]]).run Tryz.prog W
      = .ok (.tuple #[]) (W.setCell ta (.pointer (some e))) := by
  rw [rls]
  simp only [Sem.run_bind, partsEPa, partsEP, Result.andThen]
  simp [ReflectliteValue.flagAddr, loadVar, isAgg, underlying, Tryz.underlying89, hb, Result.andThen, directEP, storeVar, Value.cells, storeCells, Addr.add]
  rw [run_store Tryz.prog W ta _ _ (by rfl)]
  simp [ht, hf]
/-! ### the callees' runs -/
/-! ### errors.as -/
def AsPost (w : World) (g : Nat) (t : TypeId) (v : Value) (w' : World) : Prop := Blk w' g t #[v] ∧ Chg (fun k => k = g) w w'
set_option maxHeartbeats 4000000 in
theorem as_hitE {w : World} {old : Value} {e a : Addr} {g0 : Nat} (hT : Blk w g0 89 #[old]) (ha : w.cell? a = some (.pointer (some ⟨g0, 0, none⟩))) (tv : Value) :
    Calls Tryz.prog 66 #[.iface 89 (.pointer (some e)), tv, .agg #[.pointer (some ⟨7, 90, none⟩), .pointer (some a), .int .u64 150], .iface 130 (.agg #[.pointer (some ⟨7, 89, none⟩)])] w fun ev w' => ev = .returned (.bool true) ∧ AsPost w g0 89 (.pointer (some e)) w' := by
  have f20 := @run_callFunc_extern Tryz.prog 61 _ ReflectliteType.typeOf Tryz.func61 (by kernel_rfl) (by kernel_rfl) (by kernel_rfl) (by kernel_rfl)
  have f47 := @run_callFunc_extern Tryz.prog 132 _ (ReflectliteType.relation "AssignableTo" ReflectliteType.assignableTo) Tryz.func132 (by kernel_rfl) (by kernel_rfl) (by kernel_rfl) (by kernel_rfl)
  have f22 := @run_callFunc_extern Tryz.prog 77 _ (ReflectliteValue.method (ReflectliteValue.valueError "reflectlite.Value.Elem" 0) ReflectliteValue.elem) Tryz.func77 (by kernel_rfl) (by kernel_rfl) (by kernel_rfl) (by kernel_rfl)
  have f16 := @run_callFunc_extern Tryz.prog 63 _ (fun args => ReflectliteValue.unpack (args.getD 0 (.tuple #[]))) Tryz.func63 (by kernel_rfl) (by kernel_rfl) (by kernel_rfl) (by kernel_rfl)
  have f23 := @run_callFunc_extern Tryz.prog 78 _ ReflectliteValue.set Tryz.func78 (by kernel_rfl) (by kernel_rfl) (by kernel_rfl) (by kernel_rfl)
  have tO := typeOfEP
  have mA := methodAssignableTo
  have aE := assignEE
  have v25 := valueOfEP
  obtain ⟨W1, hW1⟩ : ∃ W1, W1 = w.alloc (.cells #[.pointer (some ⟨7, 90, none⟩), .pointer (some a), .int .u64 150] 117) := ⟨_, rfl⟩
  have hal : a.block < w.heap.size := World.block_lt_of_cell? w _ ha
  have el := elemVPP a ⟨g0, 0, none⟩ W1 (by rw [hW1, World.cell?_alloc_lt _ _ a hal]; exact ha)
  have hs1 : W1.heap.size = w.heap.size + 1 := by rw [hW1]; simp
  have hT2 : Blk (W1.alloc (.cells #[.pointer (some e)] 89)) g0 89 #[old] := by rw [hW1]; exact (hT.alloc _).alloc _
  have hb2 : (W1.alloc (.cells #[.pointer (some e)] 89)).cell? ⟨w.heap.size + 1, 0, none⟩ = some (.pointer (some e)) := by rw [← hs1]; exact (Blk.new W1 89 _).cell 0
  have st := setEP ⟨g0, 0, none⟩ ⟨w.heap.size + 1, 0, none⟩ e old (W1.alloc (.cells #[.pointer (some e)] 89)) hb2 (hT2.cell 0) (hT2.frozen 0)
  rw [hW1] at el st hT2
  have HT2 := Lib.hid hT2
  clear hb2 hT2 hs1 hW1 hT ha
  go_enter Tryz.func66, Tryz.ntmps66
  go_wp2
  refine wp_loop_rounds 1 ?_
  rw [rounds_succ]
  go_wp2
  go_ret
  refine ⟨rfl, ?_, ?_⟩
  · exact HT2.out.set_ 0 _
  · exact (((Chg.refl (fun k => k = g0) w).alloc _).alloc _).setCell (p := ⟨g0, 0, none⟩) (.inl rfl) _
set_option maxHeartbeats 4000000 in
/-- A bare fault is no *fault.Error. -/
theorem as_missE {w : World} (k : Int) (a : Addr) (tv : Value) :
    Calls Tryz.prog 66 #[.iface 30 (.int .i64 k), tv, .agg #[.pointer (some ⟨7, 90, none⟩), .pointer (some a), .int .u64 150], .iface 130 (.agg #[.pointer (some ⟨7, 89, none⟩)])] w fun ev w' => ev = .returned (.bool false) ∧ Below w.heap.size w w' := by
  have f20 := @run_callFunc_extern Tryz.prog 61 _ ReflectliteType.typeOf Tryz.func61 (by kernel_rfl) (by kernel_rfl) (by kernel_rfl) (by kernel_rfl)
  have f47 := @run_callFunc_extern Tryz.prog 132 _ (ReflectliteType.relation "AssignableTo" ReflectliteType.assignableTo) Tryz.func132 (by kernel_rfl) (by kernel_rfl) (by kernel_rfl) (by kernel_rfl)
  have tO := typeOfF
  have mA := methodAssignableTo
  have aE := assignFE
  have t1 := taFA
  have t2 := taFU
  have t3 := taFV
  go_enter Tryz.func66, Tryz.ntmps66
  go_wp2
  refine wp_loop_rounds 1 ?_
  rw [rounds_succ]
  go_wp2
  go_ret
  exact ⟨rfl, (Below.refl _ _).alloc (Nat.le_refl _) _⟩
def Laid (w : World) : Prop := w.cell? ⟨0, 0, none⟩ = some (.iface 130 (.agg #[.pointer (some ⟨7, 43, none⟩)])) ∧ 0 < w.heap.size
theorem Laid.chg {w w' : World} {S : Nat → Prop} (h : Laid w) (hc : Chg S w w') (hn : ¬ S 0) : Laid w' :=
  ⟨by rw [World.cell?_of_block (w := w) (hc.block 0 h.2 hn)]; exact h.1, Nat.lt_of_lt_of_le h.2 hc.size⟩
theorem Laid.alloc {w : World} (h : Laid w) (o : Obj) : Laid (w.alloc o) := h.chg (S := fun _ => False) ((Chg.refl _ w).alloc o) (fun h => h)
theorem Laid.below {w w' : World} (h : Laid w) (hb : Below w.heap.size w w') : Laid w' := h.chg (S := fun _ => False) (Chg.of_below hb) (fun h => h)
theorem As_nil (t : Value) (w : World) : Calls Tryz.prog 42 #[.nilIface, t] w fun e w' => e = .returned (.bool false) ∧ w' = w := by
  go_enter Tryz.func42, Tryz.ntmps42
  go_wp2
  go_ret
  exact ⟨rfl, rfl⟩
set_option maxHeartbeats 4000000 in
theorem As_hitE {w : World} {g0 : Nat} {old : Value} {e : Addr} (hL : Laid w) (hT : Blk w g0 89 #[old]) :
    Calls Tryz.prog 42 #[.iface 89 (.pointer (some e)), .iface 90 (.pointer (some ⟨g0, 0, none⟩))] w fun ev w' => ev = .returned (.bool true) ∧ AsPost w g0 89 (.pointer (some e)) w' := by
  have f16 := @run_callFunc_extern Tryz.prog 63 _ (fun args => ReflectliteValue.unpack (args.getD 0 (.tuple #[]))) Tryz.func63 (by kernel_rfl) (by kernel_rfl) (by kernel_rfl) (by kernel_rfl)
  have f17 := @run_callFunc_extern Tryz.prog 64 _ (ReflectliteValue.methodAny (ReflectliteValue.valueError "reflectlite.Value.Type" 0) (fun t _ _ _ => ReflectliteType.toType t)) Tryz.func64 (by kernel_rfl) (by kernel_rfl) (by kernel_rfl) (by kernel_rfl)
  have f18 := @run_callFunc_extern Tryz.prog 65 _ (ReflectliteValue.method (ReflectliteValue.valueError "reflectlite.Value.IsNil" 0) ReflectliteValue.isNil) Tryz.func65 (by kernel_rfl) (by kernel_rfl) (by kernel_rfl) (by kernel_rfl)
  have f38 := @run_callFunc_extern Tryz.prog 121 _ (ReflectliteType.abiMethod fun t => do pure (.int .u8 (← Rtype.kind t))) Tryz.func121 (by kernel_rfl) (by kernel_rfl) (by kernel_rfl) (by kernel_rfl)
  have f49 := @run_callFunc_extern Tryz.prog 134 _ (ReflectliteType.method ReflectliteType.elem) Tryz.func134 (by kernel_rfl) (by kernel_rfl) (by kernel_rfl) (by kernel_rfl)
  have f50 := @run_callFunc_extern Tryz.prog 135 _ (ReflectliteType.relation "Implements" ReflectliteType.implements_) Tryz.func135 (by kernel_rfl) (by kernel_rfl) (by kernel_rfl) (by kernel_rfl)
  have f6 := valueOfPP
  have f7 := typePP
  have mK := methodKind
  have mE := methodElem
  have mI := methodImplements
  have k27 := kindPP
  have k25 := kindEP
  have e27 := elemPP
  have i25 := implementsEP
  obtain ⟨W1, hW1⟩ : ∃ W1, W1 = w.alloc (.cells #[.pointer (some ⟨g0, 0, none⟩)] 90) := ⟨_, rfl⟩
  obtain ⟨W2, hW2⟩ : ∃ W2, W2 = W1.alloc (.cells #[.pointer (some ⟨7, 90, none⟩), .pointer (some ⟨w.heap.size, 0, none⟩), .int .u64 150] 117) := ⟨_, rfl⟩
  have ha1 : W1.cell? ⟨w.heap.size, 0, none⟩ = some (.pointer (some ⟨g0, 0, none⟩)) := by rw [hW1]; exact (Blk.new w 90 _).cell 0
  have hs1 : W1.heap.size = w.heap.size + 1 := by rw [hW1]; simp
  have ha2 : W2.cell? ⟨w.heap.size, 0, none⟩ = some (.pointer (some ⟨g0, 0, none⟩)) := by rw [hW2, World.cell?_alloc_lt _ _ _ (by rw [hs1]; simp)]; exact ha1
  have hg := ((hL.alloc (.cells #[.pointer (some ⟨g0, 0, none⟩)] 90)).alloc (.cells #[.pointer (some ⟨7, 90, none⟩), .pointer (some ⟨w.heap.size, 0, none⟩), .int .u64 150] 117)).1
  have hT2 : Blk W2 g0 89 #[old] := by rw [hW2, hW1]; exact (hT.alloc _).alloc _
  have n8 := isNilPP ⟨w.heap.size, 0, none⟩ ⟨g0, 0, none⟩ W2 ha2
  have hAs := as_hitE (e := e) hT2 ha2 (.iface 90 (.pointer (some ⟨g0, 0, none⟩)))
  have hcc : Chg (fun k => k = g0) w W2 := by rw [hW2, hW1]; exact ((Chg.refl _ w).alloc _).alloc _
  rw [hW2, hW1] at n8 hAs hcc
  have HA := Lib.hid hAs
  have HC := Lib.hid hcc
  clear hAs hcc hT2 ha2 ha1 hs1 hW2 hW1 hL hT
  go_enter Tryz.func42, Tryz.ntmps42
  go_wp2_with ((go_at_call 66; refine (HA.out).mono ?_; rintro ev w' ⟨rfl, hp⟩))
  go_ret
  exact ⟨rfl, hp.1, HC.out.trans hp.2 (fun i hi => .inl hi)⟩
end Go.Proofs.YtibinmabdidecaaGreatDoor
