/-
  Package watch: which literal is better to watch.
-/
import Derived.Test.YtghlgegfokjgbaaWaA
namespace Go.Proofs.Ytghlgegfokjgbaa
open Go.ChangeShapes Go.WideShapes Go.ChangeAt Go.RowKit
set_option linter.unusedVariables false
/-! ### better -/
def bet (t : TS) (a b : Int) : Bool := if t.value a < 0 ∧ t.value b < 0 then decide (t.level (absI b) < t.level (absI a)) else decide (t.value b < t.value a)
theorem absI_max (a : Int) : max a (-a) = absI a := by unfold absI; split <;> omega
set_option maxHeartbeats 1000000 in
theorem better_ {B : Nat} {w : World} {r : Nat → Nat} {wb t : Nat} {S : WS} (h : WAt B w r wb t S) (hs : Signs S.t) (a b : Int) (ha : lit3 a) (hlb : lit3 b) :
    Calls Try.prog 52 #[.pointer (some ⟨wb, 0, none⟩), .int .i64 a, .int .i64 b] w fun e w' => e = .returned (.bool (bet S.t a b)) ∧ Below w.heap.size w w' := by
  obtain ⟨vl, vs, vd, us, xs, h⟩ := h
  obtain ⟨fp, hT, -⟩ := h.tr
  have c0 := h.cells.c0
  obtain ⟨vf, hvf⟩ : ∃ vf, vf = S.t.value := ⟨_, rfl⟩
  have hv1 : ∀ (n : Nat) l, Calls Try.prog 30 #[.pointer (some ⟨t, 0, none⟩), .int .i64 l] (w.drewN n) fun e w' => e = .returned (.int .i64 (vf l)) ∧ w' = w.drewN n := fun n l =>
    (trail_Value (hT.chg (S := fun _ => False) ((Chg.refl _ _).drewN n) (fun _ _ h => h)) hs l).mono fun e w' ⟨h1, h2⟩ => ⟨by rw [hvf]; exact h1, h2.symm⟩
  have hlv : ∀ (W : World) v, Below w.heap.size w W → Calls Try.prog 18 #[.pointer (some ⟨t, 0, none⟩), .int .i64 v] W fun e w' => e = .returned (.int .i64 (S.t.level v)) ∧ Below W.heap.size W w' := fun W v hb =>
    trail_Level (hT.below hb) v
  have hc0 : ∀ W, Below w.heap.size w W → W.cell? ⟨wb, 0, none⟩ = some (.pointer (some ⟨t, 0, none⟩)) := fun W hb => (hb.cell (p := ⟨wb, 0, none⟩) h.st.lt).trans c0
  have V1 := Lib.hid hv1
  have V2 := Lib.hid hlv
  have K0 := Lib.hid hc0
  have HX := Lib.hid hvf
  have hb : bet S.t a b = (if vf a < 0 ∧ vf b < 0 then decide (S.t.level (absI b) < S.t.level (absI a)) else decide (vf b < vf a)) := by rw [hvf]; rfl
  rw [hb]
  obtain ⟨a0, a1⟩ := ha
  obtain ⟨b0, b1⟩ := hlb
  clear hv1 hlv hc0 h hT hs hvf hb
  by_cases hab : vf a < 0 ∧ vf b < 0
  · rw [if_pos hab]
    obtain ⟨g1, g2⟩ := hab
    rcases (show (a < 0 ∨ 0 ≤ a) ∧ (b < 0 ∨ 0 ≤ b) by omega) with ⟨ha | ha, hb | hb⟩
    all_goals
      first | rw [show absI a = -a by unfold absI; rw [if_pos ha]] | rw [show absI a = a by unfold absI; rw [if_neg (by omega)]]
      first | rw [show absI b = -b by unfold absI; rw [if_pos hb]] | rw [show absI b = b by unfold absI; rw [if_neg (by omega)]]
      first
        | have m1 : (if a < -a then -a else a) = -a := if_pos (by omega)
        | have m1 : (if a < -a then -a else a) = a := if_neg (by omega)
      first
        | have m2 : (if b < -b then -b else b) = -b := if_pos (by omega)
        | have m2 : (if b < -b then -b else b) = b := if_neg (by omega)
      have n1 : IntKind.i64.wrap (-a) = -a := IntWalk.i64_in _ (by omega)
      have n2 : IntKind.i64.wrap (-b) = -b := IntWalk.i64_in _ (by omega)
      go_enter Try.func52, Try.ntmps52
      go_wp2
      go_quiet ((go_at_call 30; exact Calls.quiet_of_same (V1.out _ _)))
      go_wp2
      have hq : Below w.heap.size w (w.drewN nq) := below_drewN (Below.refl _ _) _
      generalize w.drewN nq = wq at *
      have HQ := Lib.hid hq
      have c0q := K0.out wq hq
      clear hq c0
      go_region_held3 (fun w' => w'.cell? ⟨wb, 0, none⟩ = some (.pointer (some ⟨t, 0, none⟩))) (go_keep) (first
        | (go_at_call 18; (with_reducible refine (V2.out _ _ HQ.out.drew).mono ?_); rintro e w2 ⟨rfl, hb2⟩; have B2 := Lib.hid (HQ.out.drew.trans (hb2.mono HQ.out.drew.size)); have d0 := K0.out w2 B2.out; clear hb2)
        | (go_at_call 18; (with_reducible refine (V2.out _ _ B2.out).mono ?_); rintro e w3 ⟨rfl, hb3⟩; have B3 := Lib.hid (B2.out.trans (hb3.mono B2.out.size)); have e0 := K0.out w3 B3.out; clear hb3))
      all_goals
        clear m1 m2 n1 n2
        go_wp2
        go_ret
        exact ⟨rfl, B3.out⟩
  · rw [if_neg hab]
    by_cases g1 : vf a < 0
    · have g2 : ¬ vf b < 0 := fun h => hab ⟨g1, h⟩
      clear hab
      go_enter Try.func52, Try.ntmps52
      go_wp2
      go_quiet ((go_at_call 30; exact Calls.quiet_of_same (V1.out _ _)))
      go_wp2
      go_ret
      exact ⟨rfl, below_drewN (Below.refl _ _) _⟩
    · clear hab
      go_enter Try.func52, Try.ntmps52
      go_wp2
      go_quiet ((go_at_call 30; exact Calls.quiet_of_same (V1.out _ _)))
      go_wp2
      go_ret
      exact ⟨rfl, below_drewN (Below.refl _ _) _⟩
end Go.Proofs.Ytghlgegfokjgbaa
