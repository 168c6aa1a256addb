/-
  fault: Depth, Is, New, Wrap, walked.
-/
import Derived.Test.YtbfnfkefahnklaaDoorFaultF
namespace Go.Proofs.YtbfnfkefahnklaaDoor
open Go.RowKit Go.Extern.Stop Go.Stop Go.Extern
set_option linter.unusedVariables false
theorem Depth_nil (w : World) : Calls Tryd.prog 9 #[.nilIface] w fun ev w' => ev = .returned (.int .i64 0) ∧ Below w.heap.size w w' := by
  go_enter Tryd.func9, Tryd.ntmps9
  go_wp2
  refine wp_loop_rounds 1 ?_
  rw [rounds_succ]
  go_wp2_with ((go_at_call 14; refine (As_nil _ _).mono ?_; rintro ev w' ⟨rfl, rfl⟩))
  go_ret
  exact ⟨rfl, (Below.refl _ _).alloc (Nat.le_refl _) _⟩
set_option maxHeartbeats 4000000 in
theorem Depth_C {w : World} {v : Value} {k : Int} {l : List (Nat × Int)} (hL : Laid w) (hl : Chain w k l v) (hs : l.length ≤ 1000) :
    Calls Tryd.prog 9 #[v] w fun ev w' => ev = .returned (.int .i64 l.length) ∧ Below w.heap.size w w' := by
  have HL := Lib.hid hl
  have HLL := Lib.hid hL
  have HS := Lib.hid hs
  obtain ⟨vt, vx, hv⟩ := hl.iface
  subst hv
  clear hl hL hs
  go_enter Tryd.func9, Tryd.ntmps9
  go_wp2
  go_loopw [0, 2] (fun x n wr => ∃ (q : List (Nat × Int)) (m : Nat), Chain w k q x ∧ n = .int .i64 m ∧ m + q.length = l.length ∧ Below w.heap.size w wr) (fun x _ wr => clen w k x)
  case atStart => exact ⟨l, 0, HL.out, rfl, Nat.zero_add _, Below.refl _ _⟩
  case round =>
    obtain ⟨q, m, hq, rfl, hm, hW⟩ := hrel
    have hlt : w.heap.size ≤ wr.heap.size := hW.size
    have hL2 : Laid wr := HLL.out.below hW
    cases q with
    | nil =>
      have e := hq
      unfold Chain at e
      subst e
      have HE := Lib.hid (As_missE (k := k) (hL2.alloc (.cells #[.pointer none] 35)) (Blk.new wr 35 _))
      have HM := Lib.hid hm
      have HW := Lib.hid hW
      clear hq hm hL2 hW
      go_wp2_with fail
      refine HE.out.mono ?_
      rintro ev w2 ⟨rfl, hp⟩
      have hb2 := Lib.hid (HW.out.trans ((((Below.refl _ _).alloc (Nat.le_refl _) _).trans (hp.mono (by simp))).mono hlt))
      clear hp
      go_wp2
      go_ret
      exact ⟨by have := HM.out; simp at this; rw [this]; rfl, hb2.out⟩
    | cons p r =>
      obtain ⟨b, pa⟩ := p
      have hcl := clen_eq hq
      obtain ⟨e, u, hb, hr⟩ := hq
      have hbr := hb.below hW hb.lt
      have hlb := hb.lt
      have hcr := clen_eq hr
      obtain ⟨ut, ux, hu⟩ := hr.iface
      subst hu
      subst e
      have hmm : m ≤ 1000 := by have := HS.out; omega
      have HR := Lib.hid hr
      have HC := Lib.hid hcl
      have HCR := Lib.hid hcr
      have HE := Lib.hid (As_hitE (e := ⟨b, 0, none⟩) (hL2.alloc (.cells #[.pointer none] 35)) (Blk.new wr 35 _))
      have HM := Lib.hid hm
      have HW := Lib.hid hW
      have HBR := Lib.hid hbr
      clear hcl hr hcr hm hW hbr hb hL2
      go_wp2_with fail
      refine HE.out.mono ?_
      rintro ev w2 ⟨rfl, hp⟩
      have hb2 : Below wr.heap.size wr w2 := ((Below.refl _ _).alloc (Nat.le_refl _) _).trans (hp.2.below (by simp) (fun i hi => by omega))
      have hR2 := HBR.out.below hb2 HBR.out.lt
      have hce : w2.cell? ⟨wr.heap.size, 0, none⟩ = some (.pointer (some ⟨b, 0, none⟩)) := hp.1.cell 0
      have hc2 : w2.cell? ⟨b, 2, none⟩ = some (.iface ut ux) := hR2.cell 2
      have hb3 := Lib.hid (HW.out.trans (hb2.mono hlt))
      clear hp hR2 hb2
      go_wp2
      go_region
      all_goals
        go_wp2
        go_roundw
        case rel => exact ⟨r, m + 1, HR.out, by go_num, by have := HM.out; simp at this; omega, hb3.out.drew⟩
        case measure => rw [HC.out, HCR.out]; simp
theorem Is_nil (o : Int) (w : World) : Calls Tryd.prog 10 #[.nilIface, .int .i64 o] w fun ev w' => ev = .returned (.bool (decide (o = 0))) ∧ w = w' := by
  go_enter Tryd.func10, Tryd.ntmps10
  go_wp2
  go_ret
  exact ⟨rfl, rfl⟩
theorem Is_F {w : World} {v : Value} {k o : Int} {l : List (Nat × Int)} (hl : Chain w k l v) :
    Calls Tryd.prog 10 #[v, .int .i64 o] w fun ev w' => ev = .returned (.bool (k == o)) ∧ w = w' := by
  have HI := Lib.hid (Is_C (o := o) hl)
  obtain ⟨vt, vx, hv⟩ := hl.iface
  subst hv
  clear hl
  go_enter Tryd.func10, Tryd.ntmps10
  go_wp2_with ((go_at_call 15; refine (HI.out).mono ?_; rintro ev w' ⟨rfl, rfl⟩))
  go_ret
  exact ⟨rfl, rfl⟩
/-- An error of kind k with these places, from without to within. -/
def CP (w : World) (k : Int) (ats : List Int) (e : Ending) (w' : World) : Prop := ∃ l v, e = .returned v ∧ Chain w' k l v ∧ l.map (·.2) = ats ∧ Below w.heap.size w w'
theorem New_0 (a : Int) (w : World) : Calls Tryd.prog 13 #[.int .i64 0, .int .i64 a] w fun ev w' => ev = .returned .nilIface ∧ w = w' := by
  go_enter Tryd.func13, Tryd.ntmps13
  go_wp2
  go_ret
  exact ⟨rfl, rfl⟩
theorem New_C (k a : Int) (hk : (k == 0) = false) (w : World) : Calls Tryd.prog 13 #[.int .i64 k, .int .i64 a] w (CP w k [a]) := by
  go_enter Tryd.func13, Tryd.ntmps13
  go_wp2
  go_ret
  exact ⟨[(w.heap.size, a)], _, rfl, ⟨rfl, _, Blk.new w 37 _, rfl⟩, rfl, (Below.refl _ _).alloc (Nat.le_refl _) _⟩
theorem Wrap_nil (a : Int) (w : World) : Calls Tryd.prog 11 #[.nilIface, .int .i64 a] w fun ev w' => ev = .returned .nilIface ∧ w = w' := by
  go_enter Tryd.func11, Tryd.ntmps11
  go_wp2
  go_ret
  exact ⟨rfl, rfl⟩
theorem Wrap_C {w : World} {v : Value} {k : Int} {l : List (Nat × Int)} (hL : Laid w) (hl : Chain w k l v) (a : Int) :
    Calls Tryd.prog 11 #[v, .int .i64 a] w (CP w k (a :: l.map (·.2))) := by
  have HT := Lib.hid (Told_C hL hl)
  have HL := Lib.hid hl
  obtain ⟨vt, vx, hv⟩ := hl.iface
  subst hv
  clear hl hL
  go_enter Tryd.func11, Tryd.ntmps11
  go_wp2_with fail
  refine HT.out.mono ?_
  rintro ev w2 ⟨rfl, hp⟩
  have HP := Lib.hid hp
  clear hp
  go_wp2
  go_ret
  exact ⟨(w2.heap.size, a) :: l, _, rfl, ⟨rfl, _, Blk.new w2 37 _, HL.out.below (HP.out.alloc HP.out.size _)⟩, rfl, HP.out.alloc HP.out.size _⟩
end Go.Proofs.YtbfnfkefahnklaaDoor
