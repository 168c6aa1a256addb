/-
  Package ram: its methods, but Cells and Copy.
-/
import Derived.Test.YtpohekmfdbleeaaRam
import Derived.OpenShut
namespace Go.Proofs.Ytpohekmfdbleeaa
open Go.ChangeShapes Go.WideShapes Go.ChangeAt Go.RowKit Go.Maps
set_option linter.unusedVariables false
theorem keyedU : Keyed Try.prog 23 := int_keyed Try.underlying23
theorem zeroU (w : World) : (zeroValue 23).run Try.prog w = .ok (.int .u64 0) w := by kernel_rfl
theorem tight {H : Type} {P : Program} {k : TypeId} {R : Value → Option (DataW H × List MemPlace)} {w : World} {b n : Nat} {D : DataW H} (h : w.ownsMap P k R b n D) : w.ownsMap P k R b (Maps.size D) D := by
  obtain ⟨es, clock, hb, F, hs, rfl⟩ := h
  refine ⟨es, clock, hb, F, ?_, rfl⟩
  simp [Maps.size, length_sorted]
def MapAt (w : World) (bm : Nat) (cs : CS) : Prop := w.ownsMap (H := Unit) Try.prog 23 (plainElem Try.prog 23) bm cs.length (datC cs)
theorem MapAt.of {w : World} {bm n : Nat} {cs : CS} (h : w.ownsMap (H := Unit) Try.prog 23 (plainElem Try.prog 23) bm n (datC cs)) : MapAt w bm cs := by
  have := tight h
  rw [size_dat] at this
  exact this
theorem MapAt.chg {w w' : World} {bm : Nat} {cs : CS} {S : Nat → Prop} (h : MapAt w bm cs) (hc : Chg S w w') (hn : ¬ S bm) : MapAt w' bm cs := by
  obtain ⟨es, clock, hb, r⟩ := h
  exact ⟨es, clock, hc.at_ hb hn, r⟩
theorem Blk.ne_map {w : World} {g bm : Nat} {t : TypeId} {cs : Array Value} {l : CS} (h : Blk w g t cs) (k : MapAt w bm l) : g ≠ bm := by
  obtain ⟨es, clock, hb, _⟩ := k
  rintro rfl
  unfold Blk at h
  rw [h] at hb; cases hb
theorem MapAt.lt {w : World} {bm : Nat} {l : CS} (k : MapAt w bm l) : bm < w.heap.size := World.ownsMap.lt k
/-- A memory behind a pointer: its fields in block r, its map in block bm. -/
def RamAt (w : World) (r bm : Nat) (aw ww : Int) (cs : CS) : Prop :=
  Blk w r 47 #[.int .i64 aw, .int .i64 ww, .map (some bm)] ∧ MapAt w bm cs
theorem RamAt.chg {w w' : World} {r bm : Nat} {aw ww : Int} {cs : CS} {S : Nat → Prop} (h : RamAt w r bm aw ww cs) (hc : Chg S w w') (h1 : ¬ S r) (h2 : ¬ S bm) : RamAt w' r bm aw ww cs :=
  ⟨h.1.chg hc h1, h.2.chg hc h2⟩
theorem RamAt.below {w w' : World} {r bm : Nat} {aw ww : Int} {cs : CS} (h : RamAt w r bm aw ww cs) (hb : Below w.heap.size w w') : RamAt w' r bm aw ww cs :=
  h.chg (S := fun _ => False) (Chg.of_below hb) (fun h => h) (fun h => h)
structure RamCells (w : World) (r bm : Nat) (aw ww : Int) : Prop where
  c0 : w.cell? ⟨r, 0, none⟩ = some (.int .i64 aw)
  c1 : w.cell? ⟨r, 1, none⟩ = some (.int .i64 ww)
  c2 : w.cell? ⟨r, 2, none⟩ = some (.map (some bm))
theorem RamAt.cells {w : World} {r bm : Nat} {aw ww : Int} {cs : CS} (h : RamAt w r bm aw ww cs) : RamCells w r bm aw ww :=
  ⟨h.1.cell 0, h.1.cell 1, h.1.cell 2⟩
def wf (x : Int) : Prop := 0 ≤ x ∧ x < 18446744073709551616
theorem wf_lit {x : Int} (h : wf x) : (Lit.int .u64 x).wf = true := by
  obtain ⟨h0, h1⟩ := h
  simp only [Lit.wf, Bool.and_eq_true, decide_eq_true_eq]
  exact ⟨h0, by show x ≤ 18446744073709551615; omega⟩
theorem lit_wf {x : Int} (h : (Lit.int .u64 x).wf = true) : wf x := by
  have := bounds_u64 h
  exact ⟨this.1, by omega⟩
theorem lit_u64_inj {a b : Int} (h : (DataW.lit (Lit.int .u64 a) : DataW Unit) = .lit (.int .u64 b)) : a = b := by
  injection h with h; injection h

theorem ram_Read {w : World} {r bm : Nat} {aw ww : Int} {cs : CS} (h : RamAt w r bm aw ww cs) (x : Int) (hx : wf x) :
    Calls Try.prog 14 #[.pointer (some ⟨r, 0, none⟩), .int .u64 x] w fun e w' => e = .returned (.int .u64 (getC cs x)) ∧ w = w' := by
  have hkey := keyOf_int_mk Try.underlying23 (wf_lit hx)
  obtain ⟨k0, k1, k2⟩ := h.cells
  have HO := Lib.hid h.2
  clear h
  go_enter Try.func14, Try.ntmps14
  go_wp2_with (at_lookup; refine wpList_lookup_own_int (H := Unit) _ rfl _ _ 45 rfl 23 23 .u64 keyedU Try.underlying45 Try.underlying23 (zeroU _) bm _ (datC cs) rfl HO.out _ _ rfl hkey ?_; intro c hat hwc)
  go_ret
  have hc := lit_u64_inj ((at_dat cs x).symm.trans hat)
  exact ⟨by rw [hc]; rfl, rfl⟩
theorem ram_Read_nil (x : Int) (w : World) : Calls Try.prog 14 #[.pointer none, .int .u64 x] w fun e w' => e = .returned (.int .u64 0) ∧ w = w' := by
  go_enter Try.func14, Try.ntmps14
  go_wp2
  go_ret
  exact ⟨rfl, rfl⟩
theorem ram_Len {w : World} {r bm : Nat} {aw ww : Int} {cs : CS} (h : RamAt w r bm aw ww cs) :
    Calls Try.prog 13 #[.pointer (some ⟨r, 0, none⟩)] w fun e w' => e = .returned (.int .i64 (cs.length : Nat)) ∧ w = w' := by
  obtain ⟨k0, k1, k2⟩ := h.cells
  have hrun := World.ownsMap.len h.2 Try.underlying45 3
  rw [size_dat] at hrun
  clear h
  go_enter Try.func13, Try.ntmps13
  go_wp2
  go_ret
  exact ⟨rfl, rfl⟩
theorem ram_Len_nil (w : World) : Calls Try.prog 13 #[.pointer none] w fun e w' => e = .returned (.int .i64 0) ∧ w = w' := by
  go_enter Try.func13, Try.ntmps13
  go_wp2
  go_ret
  exact ⟨rfl, rfl⟩
theorem ram_Cells_nil (w : World) : Calls Try.prog 12 #[.pointer none] w fun e w' => e = .returned (.slice none 0 0) ∧ w = w' := by
  go_enter Try.func12, Try.ntmps12
  go_wp2
  go_ret
  exact ⟨rfl, rfl⟩
theorem ram_Copy_nil (w : World) : Calls Try.prog 18 #[.pointer none] w fun e w' => e = .returned (.pointer none) ∧ w = w' := by
  go_enter Try.func18, Try.ntmps18
  go_wp2
  go_ret
  exact ⟨rfl, rfl⟩
theorem ram_Write_nil (x v : Int) (w : World) : Calls Try.prog 16 #[.pointer none, .int .u64 x, .int .u64 v] w fun e w' => e = .returned (.bool false) ∧ w = w' := by
  go_enter Try.func16, Try.ntmps16
  go_wp2
  go_ret
  exact ⟨rfl, rfl⟩
end Go.Proofs.Ytpohekmfdbleeaa
