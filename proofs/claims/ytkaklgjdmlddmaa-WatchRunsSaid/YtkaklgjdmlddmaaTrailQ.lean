/-
  Package trail: Lits, At, When.
-/
import Derived.Test.YtkaklgjdmlddmaaTrailP
import Derived.Test.YtkaklgjdmlddmaaClone
namespace Go.Proofs.Ytkaklgjdmlddmaa
open Go.ChangeShapes Go.WideShapes Go.ChangeAt Go.RowKit
set_option linter.unusedVariables false

theorem trail_Lits {w : World} {t : Nat} {s : TS} {fp : List Nat} (h : TrailAt w t s fp) (hs : s.l.length ≤ 1099511627776) :
    Calls Try.prog 16 #[.pointer (some ⟨t, 0, none⟩)] w fun e w' => ∃ u, e = .returned u ∧ ClonePost w s.l u w' := by
  obtain ⟨vl, gm, cm, vv, vw, hp, rfl⟩ := h.parts
  obtain ⟨k0, -, -, -, -, -⟩ := hp.c
  have hl : Ints w vl s.l := Row.ints hp.l
  obtain ⟨al, cl, rfl⟩ := own_slice hp.l
  have HL := Lib.hid hl
  clear hp h hl
  go_enter Try.func16, Try.ntmps16
  go_wp2_with ((go_at_call 40; refine (slices_Clone HL.out hs).mono ?_; rintro e w1 ⟨u, rfl, hp⟩))
  go_ret
  exact ⟨u, rfl, hp⟩


theorem trail_At {w : World} {t : Nat} {s : TS} {fp : List Nat} (h : TrailAt w t s fp) (i : Nat) (hi : i < s.l.length) :
    Calls Try.prog 31 #[.pointer (some ⟨t, 0, none⟩), .int .i64 i] w fun e w' => e = .returned (.int .i64 (s.l.getD i 0)) ∧ w = w' := by
  have HL := Lib.hid (trail_Len h)
  obtain ⟨vl, gm, cm, vv, vw, hb, hl, hm, hv, hw, -, -⟩ := h
  have hc := TrailAt.cells hb hm
  have c0 := hc.c0
  rcases hl.form with ⟨-, hn, -⟩ | ⟨g, cap, rfl, hn1, hn2, -, hcell⟩
  · omega
  · have q := (hcell i (by simpa using hi)).1
    rw [getD_map _ _ hi] at q
    obtain ⟨x, hx⟩ : ∃ x, x = s.l.getD i 0 := ⟨_, rfl⟩
    rw [← hx] at q ⊢
    obtain ⟨n, hnn⟩ : ∃ n, n = s.l.length := ⟨_, rfl⟩
    rw [← hnn] at HL hi c0 hn1
    have h0 : (0 : Int) ≤ (i : Int) := by omega
    have h1 : (i : Int) < (n : Int) := by omega
    clear hb hl hm hv hw hc hcell hx hnn
    go_enter Try.func31, Try.ntmps31
    go_wp2_with ((go_at_call 30; refine (HL.out).mono ?_; rintro e w' ⟨rfl, rfl⟩))
    go_ret
    exact ⟨rfl, rfl⟩
theorem trail_When_off {w : World} {t : Nat} {s : TS} {fp : List Nat} (h : TrailAt w t s fp) (i : Nat) (hi : s.l.length ≤ i) :
    Calls Try.prog 33 #[.pointer (some ⟨t, 0, none⟩), .int .i64 i] w fun e w' => e = .returned (.int .i64 0) ∧ w = w' := by
  have HL := Lib.hid (trail_Len h)
  obtain ⟨n, hnn⟩ : ∃ n, n = s.l.length := ⟨_, rfl⟩
  rw [← hnn] at HL hi
  have h0 : (0 : Int) ≤ (i : Int) := by omega
  have h1 : (n : Int) ≤ (i : Int) := by omega
  clear h hnn
  go_enter Try.func33, Try.ntmps33
  go_wp2_with ((go_at_call 30; refine (HL.out).mono ?_; rintro e w' ⟨rfl, rfl⟩))
  go_ret
  exact ⟨rfl, rfl⟩
theorem trail_When {w : World} {t : Nat} {s : TS} {fp : List Nat} (h : TrailAt w t s fp) (i : Nat) (hi : i < s.l.length) (hwl : s.wh.length = s.l.length) :
    Calls Try.prog 33 #[.pointer (some ⟨t, 0, none⟩), .int .i64 i] w fun e w' => e = .returned (.int .i64 (s.wh.getD i 0)) ∧ w = w' := by
  have HL := Lib.hid (trail_Len h)
  obtain ⟨vl, gm, cm, vv, vw, hb, hl, hm, hv, hw, -, -⟩ := h
  have hc := TrailAt.cells hb hm
  have c3 := hc.c3
  rcases hw.form with ⟨-, hn, -⟩ | ⟨g, cap, rfl, hn1, hn2, -, hcell⟩
  · omega
  · have q := (hcell i (by simp; omega)).1
    rw [getD_map _ _ (by omega)] at q
    obtain ⟨x, hx⟩ : ∃ x, x = s.wh.getD i 0 := ⟨_, rfl⟩
    rw [← hx] at q ⊢
    obtain ⟨n, hnn⟩ : ∃ n, n = s.l.length := ⟨_, rfl⟩
    rw [hwl] at hn1 c3
    rw [← hnn] at HL hi c3 hn1
    have h0 : (0 : Int) ≤ (i : Int) := by omega
    have h1 : (i : Int) < (n : Int) := by omega
    clear hb hl hm hv hw hc hcell hx hnn hwl
    go_enter Try.func33, Try.ntmps33
    go_wp2_with ((go_at_call 30; refine (HL.out).mono ?_; rintro e w' ⟨rfl, rfl⟩))
    go_ret
    exact ⟨rfl, rfl⟩
end Go.Proofs.Ytkaklgjdmlddmaa
