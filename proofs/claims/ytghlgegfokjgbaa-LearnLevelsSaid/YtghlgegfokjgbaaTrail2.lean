/-
  Package trail: the methods that read marks.
-/
import Derived.Test.YtghlgegfokjgbaaTrail
namespace Go.Proofs.Ytghlgegfokjgbaa
open Go.ChangeShapes Go.WideShapes Go.ChangeAt Go.RowKit

theorem trail_free_no {w : World} {t : Nat} {s : TS} {vl : Value} {gm cm : Nat} {vv vw : Value} (hc : TrailCells w t s vl gm cm vv vw) (l : Int) (h : s.isFree l = false) :
    Calls Try.prog 38 #[.pointer (some ⟨t, 0, none⟩), .int .i64 l] w fun e w' => e = .returned (.tuple #[.pointer none, .int .i8 0]) ∧ w = w' := by
  by_cases hv : s.has (varOf l) = true
  · have hm := (hc.m0 _ (has_lt hv)).1
    have hne : (s.ms.getD (varOf l).toNat (0, 0, 0)).1 ≠ 0 := by
      unfold TS.isFree at h
      rw [hv, Bool.true_and] at h
      exact of_decide_eq_false h
    have hb : ((s.ms.getD (varOf l).toNat (0, 0, 0)).1 != 0) = true := by rw [bne_iff_ne]; exact hne
    obtain ⟨x, hx⟩ : ∃ x, x = (s.ms.getD (varOf l).toNat (0, 0, 0)).1 := ⟨_, rfl⟩
    rw [← hx] at hm hb
    clear h hne hx
    have HV := Lib.hid hv
    clear hv
    go_enter Try.func38, Try.ntmps38
    go_wp2_with (first | (go_at_call 53; refine (trail_split _ _).mono ?_; rintro e w' ⟨rfl, rfl⟩) | (go_at_call 54; refine (trail_of_yes hc _ HV.out).mono ?_; rintro e w' ⟨rfl, rfl⟩))
    go_ret2
    exact ⟨rfl, rfl⟩
  · have hv' : s.has (varOf l) = false := by simpa using hv
    have HV := Lib.hid hv'
    clear hv hv' h
    go_enter Try.func38, Try.ntmps38
    go_wp2_with (first | (go_at_call 53; refine (trail_split _ _).mono ?_; rintro e w' ⟨rfl, rfl⟩) | (go_at_call 54; refine (trail_of_no hc _ HV.out).mono ?_; rintro e w' ⟨rfl, rfl⟩))
    go_ret2
    exact ⟨rfl, rfl⟩
theorem trail_free_yes {w : World} {t : Nat} {s : TS} {vl : Value} {gm cm : Nat} {vv vw : Value} (hc : TrailCells w t s vl gm cm vv vw) (l : Int) (h : s.isFree l = true) :
    Calls Try.prog 38 #[.pointer (some ⟨t, 0, none⟩), .int .i64 l] w fun e w' => e = .returned (.tuple #[.pointer (some ⟨gm, (varOf l).toNat * 3, none⟩), .int .i8 (signOf l)]) ∧ w = w' := by
  unfold TS.isFree at h
  rw [Bool.and_eq_true] at h
  obtain ⟨hv, h0⟩ := h
  have hm := (hc.m0 _ (has_lt hv)).1
  have h0' : (s.ms.getD (varOf l).toNat (0, 0, 0)).1 = 0 := of_decide_eq_true h0
  rw [h0'] at hm
  have HV := Lib.hid hv
  clear hv h0 h0'
  go_enter Try.func38, Try.ntmps38
  go_wp2_with (first | (go_at_call 53; refine (trail_split _ _).mono ?_; rintro e w' ⟨rfl, rfl⟩) | (go_at_call 54; refine (trail_of_yes hc _ HV.out).mono ?_; rintro e w' ⟨rfl, rfl⟩))
  go_ret2
  exact ⟨rfl, rfl⟩
theorem trail_free_nil (l : Int) (w : World) : Calls Try.prog 38 #[.pointer none, .int .i64 l] w fun e w' => e = .returned (.tuple #[.pointer none, .int .i8 0]) ∧ w = w' := by
  go_enter Try.func38, Try.ntmps38
  go_wp2_with (first | (go_at_call 53; refine (trail_split _ _).mono ?_; rintro e w' ⟨rfl, rfl⟩) | (go_at_call 54; refine (trail_of_nil _ _).mono ?_; rintro e w' ⟨rfl, rfl⟩))
  go_ret2
  exact ⟨rfl, rfl⟩

theorem sign_mul (x l : Int) (h : -1 ≤ x ∧ x ≤ 1) : IntKind.i8.wrap (x * signOf l) = x * signOf l := by
  have : signOf l = -1 ∨ signOf l = 1 := by unfold signOf; split <;> simp
  refine IntWalk.i8_in _ ⟨?_, ?_⟩ <;> rcases this with e | e <;> rw [e] <;> omega

theorem trail_Value {w : World} {t : Nat} {s : TS} {fp : List Nat} (h : TrailAt w t s fp) (hs : ∀ m ∈ s.ms, -1 ≤ m.1 ∧ m.1 ≤ 1) (l : Int) :
    Calls Try.prog 30 #[.pointer (some ⟨t, 0, none⟩), .int .i64 l] w fun e w' => e = .returned (.int .i64 (s.value l)) ∧ w = w' := by
  obtain ⟨vl, gm, cm, vv, vw, hb, hl, hm, hv, hw, -, -⟩ := h
  have hc := TrailAt.cells hb hm
  clear hb hl hm hv hw
  unfold TS.value
  by_cases hv : s.has (varOf l) = true
  · rw [if_pos hv]
    have hm := (hc.m0 _ (has_lt hv)).1
    have hbd : -1 ≤ (s.mark (varOf l)).1 ∧ (s.mark (varOf l)).1 ≤ 1 := by
      refine hs _ ?_
      unfold TS.mark
      simp only [List.getD, List.getElem?_eq_getElem (has_lt hv), Option.getD_some]
      exact List.getElem_mem _
    have e1 := sign_mul (s.mark (varOf l)).1 l hbd
    obtain ⟨x, hx⟩ : ∃ x, x = (s.mark (varOf l)).1 := ⟨_, rfl⟩
    have hm' : w.cell? ⟨gm, (varOf l).toNat * 3, none⟩ = some (.int .i8 x) := by rw [hx]; exact hm
    rw [← hx] at e1 hbd ⊢
    have e2 : -1 ≤ x * signOf l ∧ x * signOf l ≤ 1 := by
      have : signOf l = -1 ∨ signOf l = 1 := by unfold signOf; split <;> simp
      rcases this with e | e <;> rw [e] <;> omega
    obtain ⟨y, hy⟩ : ∃ y, y = x * signOf l := ⟨_, rfl⟩
    replace e1 := e1.trans hy.symm
    rw [← hy] at e2 ⊢
    obtain ⟨y1, y2⟩ := e2
    clear hm hx hbd hs hy
    have HV := Lib.hid hv
    clear hv
    go_enter Try.func30, Try.ntmps30
    go_wp2_with (first | (go_at_call 53; refine (trail_split _ _).mono ?_; rintro e w' ⟨rfl, rfl⟩) | (go_at_call 54; refine (trail_of_yes hc _ HV.out).mono ?_; rintro e w' ⟨rfl, rfl⟩))
    go_ret
    refine ⟨?_, rfl⟩
    first | rfl | simp [e1]
  · rw [if_neg hv]
    have hv' : s.has (varOf l) = false := by simpa using hv
    have HV := Lib.hid hv'
    clear hv hv' hs
    go_enter Try.func30, Try.ntmps30
    go_wp2_with (first | (go_at_call 53; refine (trail_split _ _).mono ?_; rintro e w' ⟨rfl, rfl⟩) | (go_at_call 54; refine (trail_of_no hc _ HV.out).mono ?_; rintro e w' ⟨rfl, rfl⟩))
    go_ret
    exact ⟨rfl, rfl⟩
theorem trail_Value_nil (l : Int) (w : World) : Calls Try.prog 30 #[.pointer none, .int .i64 l] w fun e w' => e = .returned (.int .i64 0) ∧ w = w' := by
  go_enter Try.func30, Try.ntmps30
  go_wp2_with (first | (go_at_call 53; refine (trail_split _ _).mono ?_; rintro e w' ⟨rfl, rfl⟩) | (go_at_call 54; refine (trail_of_nil _ _).mono ?_; rintro e w' ⟨rfl, rfl⟩))
  go_ret
  exact ⟨rfl, rfl⟩

theorem trail_Level {w : World} {t : Nat} {s : TS} {fp : List Nat} (h : TrailAt w t s fp) (v : Int) :
    Calls Try.prog 18 #[.pointer (some ⟨t, 0, none⟩), .int .i64 v] w fun e w' => e = .returned (.int .i64 (s.level v)) ∧ Below w.heap.size w w' := by
  obtain ⟨vl, gm, cm, vv, vw, hb, hl, hm, hv, hw, -, -⟩ := h
  have hc := TrailAt.cells hb hm
  clear hb hl hm hv hw
  by_cases hv : s.has v = true
  · obtain ⟨m0, m1, m2⟩ := hc.m0 _ (has_lt hv)
    by_cases h0 : (s.ms.getD v.toNat (0, 0, 0)).1 = 0
    · have e : s.level v = -1 := by unfold TS.level TS.mark; rw [hv, h0]; rfl
      rw [e]
      rw [h0] at m0
      have HV := Lib.hid hv
      clear hv h0 e
      go_enter Try.func18, Try.ntmps18
      go_wp2_with (first | (go_at_call 54; refine (trail_of_yes hc _ HV.out).mono ?_; rintro e w' ⟨rfl, rfl⟩) | go_in)
      go_ret
      exact ⟨rfl, Below.refl _ _⟩
    · have e : s.level v = (s.mark v).2.1 := by unfold TS.level; rw [hv, Bool.true_and, if_pos (show decide ((s.mark v).1 ≠ 0) = true from decide_eq_true h0)]
      rw [e]
      have hb : ((s.ms.getD v.toNat (0, 0, 0)).1 == 0) = false := by rw [beq_eq_false_iff_ne]; exact h0
      obtain ⟨⟨x, y, z⟩, hx⟩ : ∃ x, x = s.ms.getD v.toNat (0, 0, 0) := ⟨_, rfl⟩
      have hx' : s.mark v = (x, y, z) := hx.symm
      rw [hx']
      rw [← hx] at m0 m1 m2 hb
      simp only at m0 m1 m2 hb ⊢
      have HV := Lib.hid hv
      clear hv h0 e hx hx'
      go_enter Try.func18, Try.ntmps18
      go_wp2_with (first | (go_at_call 54; refine (trail_of_yes hc _ HV.out).mono ?_; rintro e w' ⟨rfl, rfl⟩) | go_in)
      go_ret
      exact ⟨rfl, (Below.refl _ _).alloc (Nat.le_refl _) _⟩
  · have hv' : s.has v = false := by simpa using hv
    have e : s.level v = -1 := by unfold TS.level; rw [hv']; rfl
    rw [e]
    have HV := Lib.hid hv'
    clear hv hv' e
    go_enter Try.func18, Try.ntmps18
    go_wp2_with (first | (go_at_call 54; refine (trail_of_no hc _ HV.out).mono ?_; rintro e w' ⟨rfl, rfl⟩) | go_in)
    go_ret
    exact ⟨rfl, Below.refl _ _⟩
theorem trail_Level_nil (v : Int) (w : World) : Calls Try.prog 18 #[.pointer none, .int .i64 v] w fun e w' => e = .returned (.int .i64 (-1)) ∧ w = w' := by
  go_enter Try.func18, Try.ntmps18
  go_wp2_with (first | (go_at_call 54; refine (trail_of_nil _ _).mono ?_; rintro e w' ⟨rfl, rfl⟩) | go_in)
  go_ret
  exact ⟨rfl, rfl⟩
theorem trail_Reason {w : World} {t : Nat} {s : TS} {fp : List Nat} (h : TrailAt w t s fp) (v : Int) :
    Calls Try.prog 24 #[.pointer (some ⟨t, 0, none⟩), .int .i64 v] w fun e w' => e = .returned (.int .i64 (s.reason v)) ∧ Below w.heap.size w w' := by
  obtain ⟨vl, gm, cm, vv, vw, hb, hl, hm, hv, hw, -, -⟩ := h
  have hc := TrailAt.cells hb hm
  clear hb hl hm hv hw
  by_cases hv : s.has v = true
  · obtain ⟨m0, m1, m2⟩ := hc.m0 _ (has_lt hv)
    by_cases h0 : (s.ms.getD v.toNat (0, 0, 0)).1 = 0
    · have e : s.reason v = -1 := by unfold TS.reason TS.mark; rw [hv, h0]; rfl
      rw [e]
      rw [h0] at m0
      have HV := Lib.hid hv
      clear hv h0 e
      go_enter Try.func24, Try.ntmps24
      go_wp2_with (first | (go_at_call 54; refine (trail_of_yes hc _ HV.out).mono ?_; rintro e w' ⟨rfl, rfl⟩) | go_in)
      go_ret
      exact ⟨rfl, Below.refl _ _⟩
    · have e : s.reason v = (s.mark v).2.2 := by unfold TS.reason; rw [hv, Bool.true_and, if_pos (show decide ((s.mark v).1 ≠ 0) = true from decide_eq_true h0)]
      rw [e]
      have hb : ((s.ms.getD v.toNat (0, 0, 0)).1 == 0) = false := by rw [beq_eq_false_iff_ne]; exact h0
      obtain ⟨⟨x, y, z⟩, hx⟩ : ∃ x, x = s.ms.getD v.toNat (0, 0, 0) := ⟨_, rfl⟩
      have hx' : s.mark v = (x, y, z) := hx.symm
      rw [hx']
      rw [← hx] at m0 m1 m2 hb
      simp only at m0 m1 m2 hb ⊢
      have HV := Lib.hid hv
      clear hv h0 e hx hx'
      go_enter Try.func24, Try.ntmps24
      go_wp2_with (first | (go_at_call 54; refine (trail_of_yes hc _ HV.out).mono ?_; rintro e w' ⟨rfl, rfl⟩) | go_in)
      go_ret
      exact ⟨rfl, (Below.refl _ _).alloc (Nat.le_refl _) _⟩
  · have hv' : s.has v = false := by simpa using hv
    have e : s.reason v = -1 := by unfold TS.reason; rw [hv']; rfl
    rw [e]
    have HV := Lib.hid hv'
    clear hv hv' e
    go_enter Try.func24, Try.ntmps24
    go_wp2_with (first | (go_at_call 54; refine (trail_of_no hc _ HV.out).mono ?_; rintro e w' ⟨rfl, rfl⟩) | go_in)
    go_ret
    exact ⟨rfl, Below.refl _ _⟩
theorem trail_Reason_nil (v : Int) (w : World) : Calls Try.prog 24 #[.pointer none, .int .i64 v] w fun e w' => e = .returned (.int .i64 (-1)) ∧ w = w' := by
  go_enter Try.func24, Try.ntmps24
  go_wp2_with (first | (go_at_call 54; refine (trail_of_nil _ _).mono ?_; rintro e w' ⟨rfl, rfl⟩) | go_in)
  go_ret
  exact ⟨rfl, rfl⟩
end Go.Proofs.Ytghlgegfokjgbaa
