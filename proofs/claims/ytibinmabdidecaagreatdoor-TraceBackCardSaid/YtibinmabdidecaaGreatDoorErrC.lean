/-
  Chains of errors; errors.As at *api.Fault over a chain.
-/
import Derived.Test.YtibinmabdidecaaGreatDoorErrB
namespace Go.Proofs.YtibinmabdidecaaGreatDoor
open Go.RowKit Go.Extern.Stop Go.Stop Go.Extern
set_option linter.unusedVariables false
/-- An error of kind k, wrapped: its blocks and places, from without to within. -/
def Chain (w : World) (k : Int) : List (Nat × Int) → Value → Prop
  | [], v => v = .iface 30 (.int .i64 k)
  | (b, a) :: r, v => v = .iface 89 (.pointer (some ⟨b, 0, none⟩)) ∧ ∃ u, Blk w b 92 #[.int .i64 k, .int .i64 a, u] ∧ Chain w k r u
theorem Chain.chg {w w' : World} {S : Nat → Prop} (hc : Chg S w w') {k : Int} : ∀ {l : List (Nat × Int)} {v : Value}, Chain w k l v → (∀ p ∈ l, ¬ S p.1) → Chain w' k l v
  | [], _, h, _ => h
  | (b, a) :: r, v, ⟨e, u, hb, hr⟩, hn => ⟨e, u, hc.at_ hb (hn (b, a) (List.mem_cons_self ..)), Chain.chg hc hr fun p hp => hn p (List.mem_cons_of_mem _ hp)⟩
theorem Chain.lt {w : World} {k : Int} : ∀ {l : List (Nat × Int)} {v : Value}, Chain w k l v → ∀ p ∈ l, p.1 < w.heap.size
  | [], _, _, p, hp => absurd hp (List.not_mem_nil)
  | (b, a) :: r, v, ⟨e, u, hb, hr⟩, p, hp => by
    rcases List.mem_cons.1 hp with rfl | hp
    · exact hb.lt
    · exact Chain.lt hr p hp
theorem Chain.uniq {w : World} {k : Int} : ∀ {l l' : List (Nat × Int)} {v : Value}, Chain w k l v → Chain w k l' v → l = l'
  | [], [], _, _, _ => rfl
  | [], (b, a) :: r, v, h, h' => by have := h.symm.trans h'.1; cases this
  | (b, a) :: r, [], v, h, h' => by have := h'.symm.trans h.1; cases this
  | (b, a) :: r, (b', a') :: r', v, h, h' => by
    obtain ⟨e, u, hb, hr⟩ := h
    obtain ⟨e', u', hb', hr'⟩ := h'
    have hbb := e.symm.trans e'
    cases hbb
    have := hb.symm.trans hb'
    cases this
    rw [Chain.uniq hr hr']
open Classical in
noncomputable def clen (w : World) (k : Int) (v : Value) : Nat := if h : ∃ l, Chain w k l v then h.choose.length else 0
theorem clen_eq {w : World} {k : Int} {l : List (Nat × Int)} {v : Value} (h : Chain w k l v) : clen w k v = l.length := by
  have hh : ∃ l, Chain w k l v := ⟨l, h⟩
  unfold clen
  rw [dif_pos hh, Chain.uniq hh.choose_spec h]
theorem Chain.iface {w : World} {k : Int} : ∀ {l : List (Nat × Int)} {v : Value}, Chain w k l v → ∃ t x, v = .iface t x
  | [], _, h => ⟨_, _, h⟩
  | (b, a) :: r, v, h => ⟨_, _, h.1⟩
/-! ### reflectlite at *api.Fault -/
theorem partsFP (a : Addr) (w : World) : (ReflectliteValue.parts (.agg #[.pointer (some ⟨7, 88, none⟩), .pointer (some a), .int .u64 150])).run Tryz.prog w = .ok (some (88, a, 150)) w := by kernel_rfl
theorem isNilFP (a p : Addr) (W : World) (ha : W.cell? a = some (.pointer (some p))) :
    (ReflectliteValue.method (ReflectliteValue.valueError "reflectlite.Value.IsNil" 0) ReflectliteValue.isNil #[.agg #[.pointer (some ⟨7, 88, none⟩), .pointer (some a), .int .u64 150]]).run Tryz.prog W = .ok (.bool false) W := by
  rw [rlm]
  simp only [Sem.run_bind, partsFP, Result.andThen]
  simp [ReflectliteValue.isNil, loadVar, isAgg, underlying, Tryz.underlying88, ha, Result.andThen]
theorem elemOfFP (w : World) : (Rtype.elem? 88).run Tryz.prog w = .ok (some 30) w := by kernel_rfl
theorem mkFT (p : Addr) (w : World) : (ReflectliteValue.mk 30 p ReflectliteValue.flagAddr).run Tryz.prog w = .ok (.agg #[.pointer (some ⟨7, 30, none⟩), .pointer (some p), .int .u64 386]) w := by kernel_rfl
theorem elemVFP (a p : Addr) (W : World) (ha : W.cell? a = some (.pointer (some p))) :
    (ReflectliteValue.method (ReflectliteValue.valueError "reflectlite.Value.Elem" 0) ReflectliteValue.elem #[.agg #[.pointer (some ⟨7, 88, none⟩), .pointer (some a), .int .u64 150]]).run Tryz.prog W
      = .ok (.agg #[.pointer (some ⟨7, 30, none⟩), .pointer (some p), .int .u64 386]) W := by
  rw [rlm]
  simp only [Sem.run_bind, partsFP, Result.andThen]
  simp [ReflectliteValue.elem, loadVar, isAgg, underlying, Tryz.underlying88, ha, Result.andThen, elemOfFP, mkFT]
theorem partsFTa (a : Addr) (w : World) : (ReflectliteValue.parts (.agg #[.pointer (some ⟨7, 30, none⟩), .pointer (some a), .int .u64 386])).run Tryz.prog w = .ok (some (30, a, 386)) w := by kernel_rfl
theorem partsFTb (a : Addr) (w : World) : (ReflectliteValue.parts (.agg #[.pointer (some ⟨7, 30, none⟩), .pointer (some a), .int .u64 130])).run Tryz.prog w = .ok (some (30, a, 130)) w := by kernel_rfl
theorem directFT (w : World) : (Rtype.directlyAssignable 30 30).run Tryz.prog w = .ok true w := by kernel_rfl
theorem setFT (ta b : Addr) (e : Int) (old : Value) (W : World) (hb : W.cell? b = some (.int .i64 e)) (ht : W.cell? ta = some old) (hf : W.frozen? ta = false) :
    (ReflectliteValue.set #[.agg #[.pointer (some ⟨7, 30, none⟩), .pointer (some ta), .int .u64 386], .agg #[.pointer (some ⟨7, 30, none⟩), .pointer (some b), .int .u64 130]]).run Tryz.prog W
      = .ok (.tuple #[]) (W.setCell ta (.int .i64 e)) := by
  rw [rls]
  simp only [Sem.run_bind, partsFTa, partsFTb, Result.andThen]
  simp [ReflectliteValue.flagAddr, loadVar, isAgg, underlying, Tryz.underlying30, hb, Result.andThen, directFT, storeVar, Value.cells, storeCells, Addr.add]
  rw [run_store Tryz.prog W ta _ _ (by rfl)]
  simp [ht, hf]
end Go.Proofs.YtibinmabdidecaaGreatDoor
