/-
  fault.Told and fault.Depth over a chain, walked.
-/
import Derived.Test.YtamgbfkpblpfiaaGreatDoorErrA
import Derived.BigRegion
namespace Go.Proofs.YtamgbfkpblpfiaaGreatDoor
open Go.RowKit Go.Extern.Stop Go.Stop Go.Extern
set_option linter.unusedVariables false
/-- The place that Told tells: the innermost one. -/
def lastAt : Int → List (Nat × Int) → Int
  | d, [] => d
  | _, (_, a) :: r => lastAt a r
theorem Chain.below {w w' : World} {k : Int} {l : List (Nat × Int)} {v : Value} (h : Chain w k l v) (hb : Below w.heap.size w w') : Chain w' k l v :=
  h.chg (S := fun _ => False) (Chg.of_below hb) fun _ _ h => h
theorem Told_nil (w : World) : Calls Tryz.prog 21 #[.nilIface] w fun ev w' => ev = .returned (.tuple #[.int .i64 0, .int .i64 (-1)]) ∧ Below w.heap.size w w' := by
  go_enter Tryz.func21, Tryz.ntmps21
  go_wp2_with ((go_at_call 20; refine (As_nil _ _).mono ?_; rintro ev w' ⟨rfl, rfl⟩))
  refine wp_loop_rounds 1 ?_
  rw [rounds_succ]
  go_wp2_with ((go_at_call 20; refine (As_nil _ _).mono ?_; rintro ev w' ⟨rfl, rfl⟩))
  refine bodyPost_ret (v := .tuple #[.int .i64 0, .int .i64 (-1)]) (by simp [results, Tryz.results21, go_sem]) rfl ?_
  exact ⟨rfl, ((Below.refl _ _).alloc (Nat.le_refl _) _).alloc (by simp) _⟩
set_option maxHeartbeats 4000000 in
theorem Told_C {w : World} {v : Value} {k : Int} {l : List (Nat × Int)} (hL : Laid w) (hl : Chain w k l v) :
    Calls Tryz.prog 21 #[v] w fun ev w' => ev = .returned (.tuple #[.int .i64 k, .int .i64 (lastAt (-1) l)]) ∧ Below w.heap.size w w' := by
  have hA := As_F (w := w.alloc (.cells #[.int .i64 0] 23)) (hL.alloc _) (Blk.new w 23 _) (hl.below ((Below.refl _ _).alloc (Nat.le_refl _) _))
  have HA := Lib.hid hA
  have HL := Lib.hid hl
  have HLL := Lib.hid hL
  obtain ⟨vt, vx, hv⟩ := hl.iface
  subst hv
  clear hA hl hL
  go_enter Tryz.func21, Tryz.ntmps21
  go_wp2_with ((go_at_call 20; refine (HA.out).mono ?_; rintro ev w1 ⟨rfl, hp⟩))
  have HB1 := hp.1
  have HC1 : Below w.heap.size w w1 := ((Below.refl _ _).alloc (Nat.le_refl _) _).trans (hp.2.below (by simp) (fun i hi => by omega))
  clear hp
  go_loopw [0, 3] (fun x at_ wr => ∃ q a, Chain w k q x ∧ at_ = .int .i64 a ∧ lastAt a q = lastAt (-1) l ∧ Blk wr w.heap.size 23 #[.int .i64 k] ∧ Below w.heap.size w wr) (fun x _ wr => clen w k x)
  case atStart => exact ⟨l, -1, HL.out, rfl, rfl, HB1, HC1⟩
  case round =>
    obtain ⟨q, a, hq, rfl, ha, hB, hW⟩ := hrel
    have hlt : w.heap.size < wr.heap.size := hB.lt
    have hL2 : Laid wr := HLL.out.below hW
    cases q with
    | nil =>
      have e := hq
      unfold Chain at e
      subst e
      have HE := Lib.hid (As_missE (k := k) (hL2.alloc (.cells #[.pointer none] 49)) (Blk.new wr 49 _))
      have HAT := Lib.hid ha
      have HB := Lib.hid hB
      have HW := Lib.hid hW
      clear hq ha hL2 hW hB
      go_wp2_with fail
      refine HE.out.mono ?_
      rintro ev w2 ⟨rfl, hp⟩
      have hb2 : Below wr.heap.size wr w2 := ((Below.refl _ _).alloc (Nat.le_refl _) _).trans (hp.mono (by simp))
      have hB2 := HB.out.below hb2 HB.out.lt
      have hc : w2.cell? ⟨w.heap.size, 0, none⟩ = some (.int .i64 k) := hB2.cell 0
      have hf := hB2.frozen 0
      have hb3 := HW.out.trans (hb2.mono (Nat.le_of_lt hlt))
      clear hp hB2 hb2
      go_wp2
      refine bodyPost_ret (v := .tuple #[.int .i64 k, .int .i64 a]) (by simp [results, Tryz.results21, go_sem, hc]) rfl ?_
      exact ⟨by rw [show a = lastAt (-1) l from HAT.out], hb3.setCell (p := ⟨w.heap.size, 0, none⟩) (Nat.le_refl _) _⟩
    | cons p r =>
      obtain ⟨b, pa⟩ := p
      have hcl := clen_eq hq
      have hqr := hq.below hW
      obtain ⟨e, u, hb, hr⟩ := hq
      have hbr := hb.below hW hb.lt
      have hlb := hb.lt
      have hcr := clen_eq hr
      obtain ⟨ut, ux, hu⟩ := hr.iface
      subst hu
      subst e
      have HR := Lib.hid hr
      have HC := Lib.hid hcl
      have HCR := Lib.hid hcr
      have HE := Lib.hid (As_hitE (e := ⟨b, 0, none⟩) (hL2.alloc (.cells #[.pointer none] 49)) (Blk.new wr 49 _))
      have HAT := Lib.hid ha
      have HB := Lib.hid hB
      have HW := Lib.hid hW
      have HBR := Lib.hid hbr
      clear hcl hqr hr hcr ha hB hW hbr hb hL2
      go_wp2_with fail
      refine HE.out.mono ?_
      rintro ev w2 ⟨rfl, hp⟩
      have hb2 : Below wr.heap.size wr w2 := ((Below.refl _ _).alloc (Nat.le_refl _) _).trans (hp.2.below (by simp) (fun i hi => by omega))
      have hB2 := HB.out.below hb2 HB.out.lt
      have hR2 := HBR.out.below hb2 HBR.out.lt
      have hc : w2.cell? ⟨w.heap.size, 0, none⟩ = some (.int .i64 k) := hB2.cell 0
      have hf := hB2.frozen 0
      have hce : w2.cell? ⟨wr.heap.size, 0, none⟩ = some (.pointer (some ⟨b, 0, none⟩)) := hp.1.cell 0
      have hc0 : w2.cell? ⟨b, 0, none⟩ = some (.int .i64 k) := hR2.cell 0
      have hc1 : w2.cell? ⟨b, 1, none⟩ = some (.int .i64 pa) := hR2.cell 1
      have hc2 : w2.cell? ⟨b, 2, none⟩ = some (.iface ut ux) := hR2.cell 2
      have hb3 := Lib.hid (HW.out.trans (hb2.mono (Nat.le_of_lt hlt)))
      have HB2 := Lib.hid hB2
      clear hp hB2 hR2 hb2
      go_wp2
      go_region
      all_goals
        go_wp2
        go_roundw
        case rel => exact ⟨r, pa, HR.out, rfl, HAT.out, HB2.out.set_ 0 _, hb3.out.setCell (p := ⟨w.heap.size, 0, none⟩) (Nat.le_refl _) _ |>.drew⟩
        case measure => rw [HC.out, HCR.out]; simp
end Go.Proofs.YtamgbfkpblpfiaaGreatDoor
/-
  fault: Depth, Is, New, Wrap, walked.
-/
namespace Go.Proofs.YtamgbfkpblpfiaaGreatDoor
open Go.RowKit Go.Extern.Stop Go.Stop Go.Extern
set_option linter.unusedVariables false
def CP (w : World) (k : Int) (ats : List Int) (e : Ending) (w' : World) : Prop := ∃ l v, e = .returned v ∧ Chain w' k l v ∧ l.map (·.2) = ats ∧ Below w.heap.size w w'
theorem New_0 (a : Int) (w : World) : Calls Tryz.prog 45 #[.int .i64 0, .int .i64 a] w fun ev w' => ev = .returned .nilIface ∧ w = w' := by
  go_enter Tryz.func45, Tryz.ntmps45
  go_wp2
  go_ret
  exact ⟨rfl, rfl⟩
theorem New_C (k a : Int) (hk : (k == 0) = false) (w : World) : Calls Tryz.prog 45 #[.int .i64 k, .int .i64 a] w (CP w k [a]) := by
  go_enter Tryz.func45, Tryz.ntmps45
  go_wp2
  go_ret
  exact ⟨[(w.heap.size, a)], _, rfl, ⟨rfl, _, Blk.new w 101 _, rfl⟩, rfl, (Below.refl _ _).alloc (Nat.le_refl _) _⟩
theorem Wrap_nil (a : Int) (w : World) : Calls Tryz.prog 82 #[.nilIface, .int .i64 a] w fun ev w' => ev = .returned .nilIface ∧ w = w' := by
  go_enter Tryz.func82, Tryz.ntmps82
  go_wp2
  go_ret
  exact ⟨rfl, rfl⟩
theorem Wrap_C {w : World} {v : Value} {k : Int} {l : List (Nat × Int)} (hL : Laid w) (hl : Chain w k l v) (a : Int) :
    Calls Tryz.prog 82 #[v, .int .i64 a] w (CP w k (a :: l.map (·.2))) := by
  have HT := Lib.hid (Told_C hL hl)
  have HL := Lib.hid hl
  obtain ⟨vt, vx, hv⟩ := hl.iface
  subst hv
  clear hl hL
  go_enter Tryz.func82, Tryz.ntmps82
  go_wp2_with fail
  refine HT.out.mono ?_
  rintro ev w2 ⟨rfl, hp⟩
  have HP := Lib.hid hp
  clear hp
  go_wp2
  go_ret
  exact ⟨(w2.heap.size, a) :: l, _, rfl, ⟨rfl, _, Blk.new w2 101 _, HL.out.below (HP.out.alloc HP.out.size _)⟩, rfl, HP.out.alloc HP.out.size _⟩
end Go.Proofs.YtamgbfkpblpfiaaGreatDoor
/-
  Errors by what is told of them: in any dress.
-/
namespace Go.Proofs.YtamgbfkpblpfiaaGreatDoor
open Go.ChangeShapes Go.WideShapes Go.ChangeAt Go.RowKit
set_option linter.unusedVariables false
/-- An error of kind f at p (told so), in any dress. -/
def Bad (w : World) (f p : Nat) (v : Value) : Prop := ∃ ch, Chain w (f : Int) ch v ∧ ch ≠ [] ∧ ∀ d, lastAt d ch = (p : Int)
theorem Bad.below {w w' : World} {f p : Nat} {v : Value} (h : Bad w f p v) (hb : Below w.heap.size w w') : Bad w' f p v := by
  obtain ⟨ch, h1, h2⟩ := h
  exact ⟨ch, h1.below hb, h2⟩
theorem Bad.iface {w : World} {f p : Nat} {v : Value} (h : Bad w f p v) : ∃ x, v = .iface 49 x := by
  obtain ⟨ch, h1, h2, -⟩ := h
  match ch, h1, h2 with
  | (b, a) :: r, h1, _ => exact ⟨_, h1.1⟩
theorem lastAt_map : ∀ (ch : List (Nat × Int)) (l : List Int), ch.map (·.2) = l → ∀ d, lastAt d ch = l.getLastD d
  | [], l, h, d => by subst h; rfl
  | (b, a) :: r, l, h, d => by
    subst h
    have := lastAt_map r _ rfl a
    show lastAt a r = _
    rw [this]
    cases hr : List.map (·.2) r with
    | nil => rw [List.map_cons, hr]; rfl
    | cons x y => rw [List.map_cons, hr]; rfl
/-- fault.New of what is wrong. -/
theorem New_B (f p : Nat) (hf : 0 < f) (w : World) : Calls Tryz.prog 45 #[.int .i64 (f : Int), .int .i64 (p : Int)] w fun e w' => ∃ v, e = .returned v ∧ Bad w' f p v ∧ Below w.heap.size w w' := by
  refine (New_C (f : Int) (p : Int) (by rw [beq_eq_false_iff_ne]; omega) w).mono ?_
  rintro e w' ⟨l, v, rfl, h1, h2, h3⟩
  exact ⟨v, rfl, ⟨l, h1, fun e => by rw [e] at h2; simp at h2, fun d => by rw [lastAt_map l _ h2 d]; rfl⟩, h3⟩
theorem Wrap_B {w : World} {v : Value} {f p : Nat} (hL : Laid w) (h : Bad w f p v) (a : Int) : Calls Tryz.prog 82 #[v, .int .i64 a] w fun e w' => ∃ u, e = .returned u ∧ Bad w' f p u ∧ Below w.heap.size w w' := by
  obtain ⟨ch, h1, h2, h3⟩ := h
  refine (Wrap_C hL h1 a).mono ?_
  rintro e w' ⟨l, u, rfl, g1, g2, g3⟩
  refine ⟨u, rfl, ⟨l, g1, fun e => by rw [e] at g2; simp at g2, fun d => ?_⟩, g3⟩
  rw [lastAt_map l _ g2 d]
  obtain ⟨⟨b, x⟩, y, rfl⟩ : ∃ x y, ch = x :: y := by
    cases ch with
    | nil => exact absurd rfl h2
    | cons x y => exact ⟨x, y, rfl⟩
  have := h3 a
  rw [lastAt_map _ _ rfl a] at this
  rw [← this]
  rfl
end Go.Proofs.YtamgbfkpblpfiaaGreatDoor
