/-
  fault.Told and fault.Depth over a chain, walked.
-/
import Derived.Test.YtibinmabdidecaaGreatDoorErrD
import Derived.BigRegion
namespace Go.Proofs.YtibinmabdidecaaGreatDoor
open Go.RowKit Go.Extern.Stop Go.Stop Go.Extern
set_option linter.unusedVariables false
/-- The place that Told tells: the innermost one. -/
def lastAt : Int → List (Nat × Int) → Int
  | d, [] => d
  | _, (_, a) :: r => lastAt a r
theorem Chain.below {w w' : World} {k : Int} {l : List (Nat × Int)} {v : Value} (h : Chain w k l v) (hb : Below w.heap.size w w') : Chain w' k l v :=
  h.chg (S := fun _ => False) (Chg.of_below hb) fun _ _ h => h
theorem Told_nil (w : World) : Calls Tryz.prog 14 #[.nilIface] w fun ev w' => ev = .returned (.tuple #[.int .i64 0, .int .i64 (-1)]) ∧ Below w.heap.size w w' := by
  go_enter Tryz.func14, Tryz.ntmps14
  go_wp2_with ((go_at_call 42; refine (As_nil _ _).mono ?_; rintro ev w' ⟨rfl, rfl⟩))
  refine wp_loop_rounds 1 ?_
  rw [rounds_succ]
  go_wp2_with ((go_at_call 42; refine (As_nil _ _).mono ?_; rintro ev w' ⟨rfl, rfl⟩))
  refine bodyPost_ret (v := .tuple #[.int .i64 0, .int .i64 (-1)]) (by simp [results, Tryz.results14, go_sem]) rfl ?_
  exact ⟨rfl, ((Below.refl _ _).alloc (Nat.le_refl _) _).alloc (by simp) _⟩
set_option maxHeartbeats 4000000 in
theorem Told_C {w : World} {v : Value} {k : Int} {l : List (Nat × Int)} (hL : Laid w) (hl : Chain w k l v) :
    Calls Tryz.prog 14 #[v] w fun ev w' => ev = .returned (.tuple #[.int .i64 k, .int .i64 (lastAt (-1) l)]) ∧ Below w.heap.size w w' := by
  have hA := As_F (w := w.alloc (.cells #[.int .i64 0] 30)) (hL.alloc _) (Blk.new w 30 _) (hl.below ((Below.refl _ _).alloc (Nat.le_refl _) _))
  have HA := Lib.hid hA
  have HL := Lib.hid hl
  have HLL := Lib.hid hL
  obtain ⟨vt, vx, hv⟩ := hl.iface
  subst hv
  clear hA hl hL
  go_enter Tryz.func14, Tryz.ntmps14
  go_wp2_with ((go_at_call 42; refine (HA.out).mono ?_; rintro ev w1 ⟨rfl, hp⟩))
  have HB1 := hp.1
  have HC1 : Below w.heap.size w w1 := ((Below.refl _ _).alloc (Nat.le_refl _) _).trans (hp.2.below (by simp) (fun i hi => by omega))
  clear hp
  go_loopw [0, 3] (fun x at_ wr => ∃ q a, Chain w k q x ∧ at_ = .int .i64 a ∧ lastAt a q = lastAt (-1) l ∧ Blk wr w.heap.size 30 #[.int .i64 k] ∧ Below w.heap.size w wr) (fun x _ wr => clen w k x)
  case atStart => exact ⟨l, -1, HL.out, rfl, rfl, HB1, HC1⟩
  case round =>
    obtain ⟨q, a, hq, rfl, ha, hB, hW⟩ := hrel
    have hlt : w.heap.size < wr.heap.size := hB.lt
    have hL2 : Laid wr := HLL.out.below hW
    cases q with
    | nil =>
      have e := hq
      unfold Chain at e
      subst e
      have HE := Lib.hid (As_missE (k := k) (hL2.alloc (.cells #[.pointer none] 89)) (Blk.new wr 89 _))
      have HAT := Lib.hid ha
      have HB := Lib.hid hB
      have HW := Lib.hid hW
      clear hq ha hL2 hW hB
      go_wp2_with fail
      refine HE.out.mono ?_
      rintro ev w2 ⟨rfl, hp⟩
      have hb2 : Below wr.heap.size wr w2 := ((Below.refl _ _).alloc (Nat.le_refl _) _).trans (hp.mono (by simp))
      have hB2 := HB.out.below hb2 HB.out.lt
      have hc : w2.cell? ⟨w.heap.size, 0, none⟩ = some (.int .i64 k) := hB2.cell 0
      have hf := hB2.frozen 0
      have hb3 := HW.out.trans (hb2.mono (Nat.le_of_lt hlt))
      clear hp hB2 hb2
      go_wp2
      refine bodyPost_ret (v := .tuple #[.int .i64 k, .int .i64 a]) (by simp [results, Tryz.results14, go_sem, hc]) rfl ?_
      exact ⟨by rw [show a = lastAt (-1) l from HAT.out], hb3.setCell (p := ⟨w.heap.size, 0, none⟩) (Nat.le_refl _) _⟩
    | cons p r =>
      obtain ⟨b, pa⟩ := p
      have hcl := clen_eq hq
      have hqr := hq.below hW
      obtain ⟨e, u, hb, hr⟩ := hq
      have hbr := hb.below hW hb.lt
      have hlb := hb.lt
      have hcr := clen_eq hr
      obtain ⟨ut, ux, hu⟩ := hr.iface
      subst hu
      subst e
      have HR := Lib.hid hr
      have HC := Lib.hid hcl
      have HCR := Lib.hid hcr
      have HE := Lib.hid (As_hitE (e := ⟨b, 0, none⟩) (hL2.alloc (.cells #[.pointer none] 89)) (Blk.new wr 89 _))
      have HAT := Lib.hid ha
      have HB := Lib.hid hB
      have HW := Lib.hid hW
      have HBR := Lib.hid hbr
      clear hcl hqr hr hcr ha hB hW hbr hb hL2
      go_wp2_with fail
      refine HE.out.mono ?_
      rintro ev w2 ⟨rfl, hp⟩
      have hb2 : Below wr.heap.size wr w2 := ((Below.refl _ _).alloc (Nat.le_refl _) _).trans (hp.2.below (by simp) (fun i hi => by omega))
      have hB2 := HB.out.below hb2 HB.out.lt
      have hR2 := HBR.out.below hb2 HBR.out.lt
      have hc : w2.cell? ⟨w.heap.size, 0, none⟩ = some (.int .i64 k) := hB2.cell 0
      have hf := hB2.frozen 0
      have hce : w2.cell? ⟨wr.heap.size, 0, none⟩ = some (.pointer (some ⟨b, 0, none⟩)) := hp.1.cell 0
      have hc0 : w2.cell? ⟨b, 0, none⟩ = some (.int .i64 k) := hR2.cell 0
      have hc1 : w2.cell? ⟨b, 1, none⟩ = some (.int .i64 pa) := hR2.cell 1
      have hc2 : w2.cell? ⟨b, 2, none⟩ = some (.iface ut ux) := hR2.cell 2
      have hb3 := Lib.hid (HW.out.trans (hb2.mono (Nat.le_of_lt hlt)))
      have HB2 := Lib.hid hB2
      clear hp hB2 hR2 hb2
      go_wp2
      go_region
      all_goals
        go_wp2
        go_roundw
        case rel => exact ⟨r, pa, HR.out, rfl, HAT.out, HB2.out.set_ 0 _, hb3.out.setCell (p := ⟨w.heap.size, 0, none⟩) (Nat.le_refl _) _ |>.drew⟩
        case measure => rw [HC.out, HCR.out]; simp
end Go.Proofs.YtibinmabdidecaaGreatDoor
/-
  fault: Depth, Is, New, Wrap, walked.
-/
namespace Go.Proofs.YtibinmabdidecaaGreatDoor
open Go.RowKit Go.Extern.Stop Go.Stop Go.Extern
set_option linter.unusedVariables false
def CP (w : World) (k : Int) (ats : List Int) (e : Ending) (w' : World) : Prop := ∃ l v, e = .returned v ∧ Chain w' k l v ∧ l.map (·.2) = ats ∧ Below w.heap.size w w'
theorem New_0 (a : Int) (w : World) : Calls Tryz.prog 37 #[.int .i64 0, .int .i64 a] w fun ev w' => ev = .returned .nilIface ∧ w = w' := by
  go_enter Tryz.func37, Tryz.ntmps37
  go_wp2
  go_ret
  exact ⟨rfl, rfl⟩
theorem New_C (k a : Int) (hk : (k == 0) = false) (w : World) : Calls Tryz.prog 37 #[.int .i64 k, .int .i64 a] w (CP w k [a]) := by
  go_enter Tryz.func37, Tryz.ntmps37
  go_wp2
  go_ret
  exact ⟨[(w.heap.size, a)], _, rfl, ⟨rfl, _, Blk.new w 92 _, rfl⟩, rfl, (Below.refl _ _).alloc (Nat.le_refl _) _⟩
theorem Wrap_nil (a : Int) (w : World) : Calls Tryz.prog 56 #[.nilIface, .int .i64 a] w fun ev w' => ev = .returned .nilIface ∧ w = w' := by
  go_enter Tryz.func56, Tryz.ntmps56
  go_wp2
  go_ret
  exact ⟨rfl, rfl⟩
theorem Wrap_C {w : World} {v : Value} {k : Int} {l : List (Nat × Int)} (hL : Laid w) (hl : Chain w k l v) (a : Int) :
    Calls Tryz.prog 56 #[v, .int .i64 a] w (CP w k (a :: l.map (·.2))) := by
  have HT := Lib.hid (Told_C hL hl)
  have HL := Lib.hid hl
  obtain ⟨vt, vx, hv⟩ := hl.iface
  subst hv
  clear hl hL
  go_enter Tryz.func56, Tryz.ntmps56
  go_wp2_with fail
  refine HT.out.mono ?_
  rintro ev w2 ⟨rfl, hp⟩
  have HP := Lib.hid hp
  clear hp
  go_wp2
  go_ret
  exact ⟨(w2.heap.size, a) :: l, _, rfl, ⟨rfl, _, Blk.new w2 92 _, HL.out.below (HP.out.alloc HP.out.size _)⟩, rfl, HP.out.alloc HP.out.size _⟩
end Go.Proofs.YtibinmabdidecaaGreatDoor
