/-
  errors.as and errors.As at *api.Fault, walked over a chain.
-/
import Derived.Test.YtibinmabdidecaaGreatDoorErrC
namespace Go.Proofs.YtibinmabdidecaaGreatDoor
open Go.RowKit Go.Extern.Stop Go.Stop Go.Extern
set_option linter.unusedVariables false
theorem unwrap_ {w : World} {b : Nat} {c0 c1 u : Value} (hB : Blk w b 92 #[c0, c1, u]) :
    Calls Tryz.prog 127 #[.pointer (some ⟨b, 0, none⟩)] w fun e w' => e = .returned u ∧ w = w' := by
  have h2 : w.cell? ⟨b, 2, none⟩ = some u := hB.cell 2
  clear hB
  go_enter Tryz.func127, Tryz.ntmps127
  go_wp2
  go_ret
  exact ⟨rfl, rfl⟩
set_option maxHeartbeats 4000000 in
theorem as_F {w : World} {old v : Value} {k : Int} {a : Addr} {g0 : Nat} {l : List (Nat × Int)} (hT : Blk w g0 30 #[old]) (ha : w.cell? a = some (.pointer (some ⟨g0, 0, none⟩))) (hl : Chain w k l v) (tv : Value) :
    Calls Tryz.prog 66 #[v, tv, .agg #[.pointer (some ⟨7, 88, none⟩), .pointer (some a), .int .u64 150], .iface 130 (.agg #[.pointer (some ⟨7, 30, none⟩)])] w fun ev w' => ev = .returned (.bool true) ∧ AsPost w g0 30 (.int .i64 k) w' := by
  have f20 := @run_callFunc_extern Tryz.prog 61 _ ReflectliteType.typeOf Tryz.func61 (by kernel_rfl) (by kernel_rfl) (by kernel_rfl) (by kernel_rfl)
  have f47 := @run_callFunc_extern Tryz.prog 132 _ (ReflectliteType.relation "AssignableTo" ReflectliteType.assignableTo) Tryz.func132 (by kernel_rfl) (by kernel_rfl) (by kernel_rfl) (by kernel_rfl)
  have f22 := @run_callFunc_extern Tryz.prog 77 _ (ReflectliteValue.method (ReflectliteValue.valueError "reflectlite.Value.Elem" 0) ReflectliteValue.elem) Tryz.func77 (by kernel_rfl) (by kernel_rfl) (by kernel_rfl) (by kernel_rfl)
  have f16 := @run_callFunc_extern Tryz.prog 63 _ (fun args => ReflectliteValue.unpack (args.getD 0 (.tuple #[]))) Tryz.func63 (by kernel_rfl) (by kernel_rfl) (by kernel_rfl) (by kernel_rfl)
  have f23 := @run_callFunc_extern Tryz.prog 78 _ ReflectliteValue.set Tryz.func78 (by kernel_rfl) (by kernel_rfl) (by kernel_rfl) (by kernel_rfl)
  have tE := typeOfEP
  have tO := typeOfF
  have mA := methodAssignableTo
  have mU := methodUnwrap
  have aE := assignEF
  have aF := assignFF
  have t1 := taEA
  have t2 := taEU
  have v25 := valueOfFT
  obtain ⟨W1, hW1⟩ : ∃ W1, W1 = w.alloc (.cells #[.pointer (some ⟨7, 88, none⟩), .pointer (some a), .int .u64 150] 117) := ⟨_, rfl⟩
  have hal : a.block < w.heap.size := World.block_lt_of_cell? w _ ha
  have el := elemVFP a ⟨g0, 0, none⟩ W1 (by rw [hW1, World.cell?_alloc_lt _ _ a hal]; exact ha)
  have hs1 : W1.heap.size = w.heap.size + 1 := by rw [hW1]; simp
  have hT2 : Blk (W1.alloc (.cells #[.int .i64 k] 30)) g0 30 #[old] := by rw [hW1]; exact (hT.alloc _).alloc _
  have hb2 : (W1.alloc (.cells #[.int .i64 k] 30)).cell? ⟨w.heap.size + 1, 0, none⟩ = some (.int .i64 k) := by rw [← hs1]; exact (Blk.new W1 30 _).cell 0
  have st := setFT ⟨g0, 0, none⟩ ⟨w.heap.size + 1, 0, none⟩ k old (W1.alloc (.cells #[.int .i64 k] 30)) hb2 (hT2.cell 0) (hT2.frozen 0)
  have HL : Hid (Chain W1 k l v) := Lib.hid (by rw [hW1]; exact hl.chg (S := fun _ => False) ((Chg.refl _ w).alloc _) (fun _ _ h => h))
  rw [hW1] at el st hT2 HL
  have HT2 := Lib.hid hT2
  clear hb2 hT2 hs1 hW1 hT ha hl
  go_enter Tryz.func66, Tryz.ntmps66
  go_wp2
  go_loopw [0] (fun x wr => wr = w.alloc (.cells #[.pointer (some ⟨7, 88, none⟩), .pointer (some a), .int .u64 150] 117) ∧ ∃ q, Chain (w.alloc (.cells #[.pointer (some ⟨7, 88, none⟩), .pointer (some a), .int .u64 150] 117)) k q x) (fun x wr => clen wr k x)
  case atStart => exact ⟨rfl, l, HL.out⟩
  case round =>
    obtain ⟨rfl, q, hq⟩ := hrel
    cases q with
    | nil =>
      have e := hq
      unfold Chain at e
      subst e
      clear hq
      go_wp2
      go_ret
      refine ⟨rfl, ?_, ?_⟩
      · exact HT2.out.set_ 0 _
      · exact (((Chg.refl (fun k => k = g0) w).alloc _).alloc _).setCell (p := ⟨g0, 0, none⟩) (.inl rfl) _
    | cons p r =>
      obtain ⟨b, pa⟩ := p
      have hcl := clen_eq hq
      obtain ⟨e, u, hb, hr⟩ := hq
      subst e
      have hcr := clen_eq hr
      obtain ⟨ut, ux, hu⟩ := hr.iface
      subst hu
      have HR := Lib.hid hr
      have HC := Lib.hid hcl
      have HCR := Lib.hid hcr
      have HU := Lib.hid (unwrap_ hb)
      clear hr hcl hcr hb
      go_wp2_with ((go_at_call 127; refine (HU.out).mono ?_; rintro ev w' ⟨rfl, rfl⟩))
      go_roundw
      case rel => exact ⟨trivial, r, HR.out⟩
      case measure => rw [HC.out, HCR.out]; simp
set_option maxHeartbeats 4000000 in
theorem As_F {w : World} {g0 : Nat} {old v : Value} {k : Int} {l : List (Nat × Int)} (hL : Laid w) (hT : Blk w g0 30 #[old]) (hl : Chain w k l v) :
    Calls Tryz.prog 42 #[v, .iface 88 (.pointer (some ⟨g0, 0, none⟩))] w fun ev w' => ev = .returned (.bool true) ∧ AsPost w g0 30 (.int .i64 k) w' := by
  have f16 := @run_callFunc_extern Tryz.prog 63 _ (fun args => ReflectliteValue.unpack (args.getD 0 (.tuple #[]))) Tryz.func63 (by kernel_rfl) (by kernel_rfl) (by kernel_rfl) (by kernel_rfl)
  have f17 := @run_callFunc_extern Tryz.prog 64 _ (ReflectliteValue.methodAny (ReflectliteValue.valueError "reflectlite.Value.Type" 0) (fun t _ _ _ => ReflectliteType.toType t)) Tryz.func64 (by kernel_rfl) (by kernel_rfl) (by kernel_rfl) (by kernel_rfl)
  have f18 := @run_callFunc_extern Tryz.prog 65 _ (ReflectliteValue.method (ReflectliteValue.valueError "reflectlite.Value.IsNil" 0) ReflectliteValue.isNil) Tryz.func65 (by kernel_rfl) (by kernel_rfl) (by kernel_rfl) (by kernel_rfl)
  have f38 := @run_callFunc_extern Tryz.prog 121 _ (ReflectliteType.abiMethod fun t => do pure (.int .u8 (← Rtype.kind t))) Tryz.func121 (by kernel_rfl) (by kernel_rfl) (by kernel_rfl) (by kernel_rfl)
  have f49 := @run_callFunc_extern Tryz.prog 134 _ (ReflectliteType.method ReflectliteType.elem) Tryz.func134 (by kernel_rfl) (by kernel_rfl) (by kernel_rfl) (by kernel_rfl)
  have f50 := @run_callFunc_extern Tryz.prog 135 _ (ReflectliteType.relation "Implements" ReflectliteType.implements_) Tryz.func135 (by kernel_rfl) (by kernel_rfl) (by kernel_rfl) (by kernel_rfl)
  have f6 := valueOfFP
  have f7 := typeFP
  have mK := methodKind
  have mE := methodElem
  have mI := methodImplements
  have k27 := kindFP
  have k25 := kindFT
  have e27 := elemFP
  have i25 := implementsFT
  obtain ⟨W1, hW1⟩ : ∃ W1, W1 = w.alloc (.cells #[.pointer (some ⟨g0, 0, none⟩)] 88) := ⟨_, rfl⟩
  obtain ⟨W2, hW2⟩ : ∃ W2, W2 = W1.alloc (.cells #[.pointer (some ⟨7, 88, none⟩), .pointer (some ⟨w.heap.size, 0, none⟩), .int .u64 150] 117) := ⟨_, rfl⟩
  have ha1 : W1.cell? ⟨w.heap.size, 0, none⟩ = some (.pointer (some ⟨g0, 0, none⟩)) := by rw [hW1]; exact (Blk.new w 88 _).cell 0
  have hs1 : W1.heap.size = w.heap.size + 1 := by rw [hW1]; simp
  have ha2 : W2.cell? ⟨w.heap.size, 0, none⟩ = some (.pointer (some ⟨g0, 0, none⟩)) := by rw [hW2, World.cell?_alloc_lt _ _ _ (by rw [hs1]; simp)]; exact ha1
  have hg := ((hL.alloc (.cells #[.pointer (some ⟨g0, 0, none⟩)] 88)).alloc (.cells #[.pointer (some ⟨7, 88, none⟩), .pointer (some ⟨w.heap.size, 0, none⟩), .int .u64 150] 117)).1
  have hT2 : Blk W2 g0 30 #[old] := by rw [hW2, hW1]; exact (hT.alloc _).alloc _
  have n8 := isNilFP ⟨w.heap.size, 0, none⟩ ⟨g0, 0, none⟩ W2 ha2
  have hcc : Chg (fun k => k = g0) w W2 := by rw [hW2, hW1]; exact ((Chg.refl _ w).alloc _).alloc _
  have hc0 : Chg (fun _ => False) w W2 := by rw [hW2, hW1]; exact ((Chg.refl _ w).alloc _).alloc _
  have hAs := as_F hT2 ha2 (hl.chg hc0 (fun _ _ h => h)) (.iface 88 (.pointer (some ⟨g0, 0, none⟩)))
  rw [hW2, hW1] at n8 hAs hcc
  have HA := Lib.hid hAs
  have HC := Lib.hid hcc
  obtain ⟨vt, vx, hv⟩ := hl.iface
  subst hv
  clear hAs hcc hT2 ha2 ha1 hs1 hW2 hW1 hL hT hc0 hl
  go_enter Tryz.func42, Tryz.ntmps42
  go_wp2_with ((go_at_call 66; refine (HA.out).mono ?_; rintro ev w' ⟨rfl, hp⟩))
  go_ret
  exact ⟨rfl, hp.1, HC.out.trans hp.2 (fun i hi => .inl hi)⟩
set_option maxHeartbeats 4000000 in
theorem As_missE {w : World} {g0 : Nat} {old : Value} {k : Int} (hL : Laid w) (hT : Blk w g0 89 #[old]) :
    Calls Tryz.prog 42 #[.iface 30 (.int .i64 k), .iface 90 (.pointer (some ⟨g0, 0, none⟩))] w fun ev w' => ev = .returned (.bool false) ∧ Below w.heap.size w w' := by
  have f16 := @run_callFunc_extern Tryz.prog 63 _ (fun args => ReflectliteValue.unpack (args.getD 0 (.tuple #[]))) Tryz.func63 (by kernel_rfl) (by kernel_rfl) (by kernel_rfl) (by kernel_rfl)
  have f17 := @run_callFunc_extern Tryz.prog 64 _ (ReflectliteValue.methodAny (ReflectliteValue.valueError "reflectlite.Value.Type" 0) (fun t _ _ _ => ReflectliteType.toType t)) Tryz.func64 (by kernel_rfl) (by kernel_rfl) (by kernel_rfl) (by kernel_rfl)
  have f18 := @run_callFunc_extern Tryz.prog 65 _ (ReflectliteValue.method (ReflectliteValue.valueError "reflectlite.Value.IsNil" 0) ReflectliteValue.isNil) Tryz.func65 (by kernel_rfl) (by kernel_rfl) (by kernel_rfl) (by kernel_rfl)
  have f38 := @run_callFunc_extern Tryz.prog 121 _ (ReflectliteType.abiMethod fun t => do pure (.int .u8 (← Rtype.kind t))) Tryz.func121 (by kernel_rfl) (by kernel_rfl) (by kernel_rfl) (by kernel_rfl)
  have f49 := @run_callFunc_extern Tryz.prog 134 _ (ReflectliteType.method ReflectliteType.elem) Tryz.func134 (by kernel_rfl) (by kernel_rfl) (by kernel_rfl) (by kernel_rfl)
  have f50 := @run_callFunc_extern Tryz.prog 135 _ (ReflectliteType.relation "Implements" ReflectliteType.implements_) Tryz.func135 (by kernel_rfl) (by kernel_rfl) (by kernel_rfl) (by kernel_rfl)
  have f6 := valueOfPP
  have f7 := typePP
  have mK := methodKind
  have mE := methodElem
  have mI := methodImplements
  have k27 := kindPP
  have k25 := kindEP
  have e27 := elemPP
  have i25 := implementsEP
  obtain ⟨W1, hW1⟩ : ∃ W1, W1 = w.alloc (.cells #[.pointer (some ⟨g0, 0, none⟩)] 90) := ⟨_, rfl⟩
  obtain ⟨W2, hW2⟩ : ∃ W2, W2 = W1.alloc (.cells #[.pointer (some ⟨7, 90, none⟩), .pointer (some ⟨w.heap.size, 0, none⟩), .int .u64 150] 117) := ⟨_, rfl⟩
  have ha1 : W1.cell? ⟨w.heap.size, 0, none⟩ = some (.pointer (some ⟨g0, 0, none⟩)) := by rw [hW1]; exact (Blk.new w 90 _).cell 0
  have hs1 : W1.heap.size = w.heap.size + 1 := by rw [hW1]; simp
  have ha2 : W2.cell? ⟨w.heap.size, 0, none⟩ = some (.pointer (some ⟨g0, 0, none⟩)) := by rw [hW2, World.cell?_alloc_lt _ _ _ (by rw [hs1]; simp)]; exact ha1
  have hg := ((hL.alloc (.cells #[.pointer (some ⟨g0, 0, none⟩)] 90)).alloc (.cells #[.pointer (some ⟨7, 90, none⟩), .pointer (some ⟨w.heap.size, 0, none⟩), .int .u64 150] 117)).1
  have n8 := isNilPP ⟨w.heap.size, 0, none⟩ ⟨g0, 0, none⟩ W2 ha2
  have hcc : Below w.heap.size w W2 := by rw [hW2, hW1]; exact ((Below.refl _ _).alloc (Nat.le_refl _) _).alloc (by simp) _
  have hAs := as_missE (w := W2) k ⟨w.heap.size, 0, none⟩ (.iface 90 (.pointer (some ⟨g0, 0, none⟩)))
  have hAs2 := hAs.mono fun e w' h => (⟨h.1, hcc.trans (h.2.mono hcc.size)⟩ : _ ∧ Below w.heap.size w w')
  rw [hW2, hW1] at n8 hAs2
  have HA := Lib.hid hAs2
  clear hAs hAs2 hcc ha2 ha1 hs1 hW2 hW1 hL hT
  go_enter Tryz.func42, Tryz.ntmps42
  go_wp2_with ((go_at_call 66; refine (HA.out).mono ?_; rintro ev w' ⟨rfl, hp⟩))
  go_ret
  exact ⟨rfl, hp⟩
end Go.Proofs.YtibinmabdidecaaGreatDoor
