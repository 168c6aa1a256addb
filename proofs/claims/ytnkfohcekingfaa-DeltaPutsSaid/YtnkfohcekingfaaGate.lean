/-
  delta.Gate and its reference: the gate of any bytes.
-/
import Derived.Test.YtnkfohcekingfaaDLaw
import Derived.Deep.QuietTactic
import Derived.BigQuiet
namespace Go.Proofs.Ytnkfohcekingfaa
open Go.ChangeShapes Go.WideShapes Go.ChangeAt Go.RowKit

theorem BytesAt.below {w w' : World} {v : Value} {bs : List Nat} (h : BytesAt w v bs) (hb : Below w.heap.size w w') : BytesAt w' v bs := by
  obtain ⟨h1, h2, a, cap, rfl, hc, hm, h3⟩ := h
  refine ⟨h1, h2, a, cap, rfl, hc, hm, ?_⟩
  rcases h3 with h3 | ⟨b, off, rfl, hcell⟩
  · exact .inl h3
  · refine .inr ⟨b, off, rfl, fun j hj => ?_⟩
    have := hcell j hj
    rw [hb.cell (p := ⟨b, off + j, none⟩) (World.block_lt_of_cell? w _ this)]; exact this

theorem takeG_ok (most pos : Int) : ∀ (f i n : Nat) (r : List Nat), (takeG most pos f i n r).2.2 = 0 →
    0 ≤ (takeG most pos f i n r).1 ∧ (takeG most pos f i n r).1 ≤ most ∧ pos + i < (takeG most pos f i n r).2.1 ∧ (takeG most pos f i n r).2.1 ≤ pos + i + r.length := by
  intro f
  induction f with
  | zero => intro i n r h; simp [takeG] at h
  | succ f ih =>
    intro i n r h
    cases r with
    | nil => simp [takeG] at h
    | cons c r =>
      unfold takeG at h ⊢
      by_cases h1 : 128 ≤ c
      · rw [if_pos h1] at h ⊢
        have := ih _ _ _ h
        simp only [List.length_cons]
        omega
      · rw [if_neg h1] at h ⊢
        by_cases h2 : c = 0 ∧ 0 < i
        · rw [if_pos h2] at h; simp at h
        · rw [if_neg h2] at h ⊢
          by_cases h3 : most < ((n + c % 128 * 128 ^ i : Nat) : Int)
          · rw [if_pos h3] at h; simp at h
          · rw [if_neg h3]
            simp only [List.length_cons]
            omega
theorem takeL_ok {bs : List Nat} {pos most n en f : Int} (h : takeL bs pos most = (n, en, f)) (hf : f = 0) : 0 ≤ n ∧ n ≤ most ∧ 0 ≤ en ∧ en ≤ bs.length := by
  unfold takeL at h
  by_cases ho : pos < 0 ∨ (bs.length : Int) < pos
  · rw [if_pos ho] at h; simp at h; omega
  · rw [if_neg ho] at h
    have := takeG_ok most pos 9 0 0 (bs.drop pos.toNat) (by rw [h]; exact hf)
    rw [h] at this
    simp at this
    omega
theorem delta_Take' (v : Value) (bs : List Nat) (pos most n en f : Int) (w : World) (h : BytesAt w v bs) (hr : takeL bs pos most = (n, en, f)) :
    Calls Try.prog 13 #[v, .int .i64 pos, .int .i64 most] w fun e w' => e = .returned (.tuple #[.int .i64 n, .int .i64 en, .int .i64 f]) ∧ w = w' := by
  have := delta_Take v bs pos most w h
  rw [hr] at this; exact this
theorem r04_Take' (v : Value) (bs : List Nat) (pos most n en f : Int) (w : World) (h : BytesAt w v bs) (hr : takeL bs pos most = (n, en, f)) :
    Calls Try.prog 14 #[v, .int .i64 pos, .int .i64 most] w fun e w' => e = .returned (.tuple #[.int .i64 n, .int .i64 en, .int .i64 f]) ∧ w = w' := by
  have := r04_Take v bs pos most w h
  rw [hr] at this; exact this

def gateFin (lhs x y k : Int) : Int × Int × Int × Int := if x = 0 ∨ lhs < x ∨ lhs - x < y then (0, 0, 0, 11) else (lhs - x, lhs - x - y, k, 0)
theorem gateFin_no {lhs x y k : Int} (h : x = 0 ∨ lhs < x ∨ lhs - x < y) : gateFin lhs x y k = (0, 0, 0, 11) := by unfold gateFin; rw [if_pos h]
theorem gateFin_yes {lhs x y k : Int} (h : ¬ (x = 0 ∨ lhs < x ∨ lhs - x < y)) : gateFin lhs x y k = (lhs - x, lhs - x - y, k, 0) := by unfold gateFin; rw [if_neg h]
/-- What Gate answers. -/
def gateL (bs : List Nat) (pos lhs : Int) : Int × Int × Int × Int :=
  if (takeL bs pos 1152921504606846976).2.2 ≠ 0 then (0, 0, 0, (takeL bs pos 1152921504606846976).2.2)
  else if (takeL bs (takeL bs pos 1152921504606846976).2.1 1152921504606846976).2.2 ≠ 0 then (0, 0, 0, (takeL bs (takeL bs pos 1152921504606846976).2.1 1152921504606846976).2.2)
  else gateFin lhs (takeL bs pos 1152921504606846976).1 (takeL bs (takeL bs pos 1152921504606846976).2.1 1152921504606846976).1 (takeL bs (takeL bs pos 1152921504606846976).2.1 1152921504606846976).2.1
def quad (r : Int × Int × Int × Int) : Value := .tuple #[.int .i64 r.1, .int .i64 r.2.1, .int .i64 r.2.2.1, .int .i64 r.2.2.2]

theorem r04_Gate (v : Value) (bs : List Nat) (pos lhs : Int) (w : World) (h : BytesAt w v bs) (h1 : 2 ≤ lhs) (h2 : lhs ≤ 1152921504606846976) :
    Calls Try.prog 12 #[v, .int .i64 pos, .int .i64 lhs] w fun e w' => e = .returned (quad (gateL bs pos lhs)) ∧ w = w' := by
  unfold gateL
  obtain ⟨x, i, f, hr⟩ : ∃ x i f, takeL bs pos 1152921504606846976 = (x, i, f) := ⟨_, _, _, rfl⟩
  obtain ⟨y, k, g, hs⟩ : ∃ y k g, takeL bs i 1152921504606846976 = (y, k, g) := ⟨_, _, _, rfl⟩
  simp only [hr, hs]
  have HR := Lib.hid hr
  have HS := Lib.hid hs
  clear hr hs
  by_cases hf : f = 0
  · obtain ⟨a1, a2, a3, a4⟩ := takeL_ok HR.out hf
    subst hf
    rw [if_neg (by simp)]
    by_cases hg : g = 0
    · obtain ⟨b1, b2, b3, b4⟩ := takeL_ok HS.out hg
      subst hg
      rw [if_neg (by simp)]
      obtain ⟨r, hr⟩ : ∃ r, r = gateFin lhs x y k := ⟨_, rfl⟩
      rw [← hr]
      have HF := Lib.hid hr
      clear hr
      rcases (show x = 0 ∨ (x ≠ 0 ∧ lhs < x) ∨ (x ≠ 0 ∧ x ≤ lhs ∧ lhs - x < y) ∨ (x ≠ 0 ∧ x ≤ lhs ∧ y ≤ lhs - x) by omega) with hx | ⟨hx, hy⟩ | ⟨hx, hy, hz⟩ | ⟨hx, hy, hz⟩
      case' inl => have hz : (x == 0) = true := beq_iff_eq.2 hx
      case' inr.inl => have hx' : (x == 0) = false := beq_eq_false_iff_ne.2 hx
      case' inr.inr.inl => have hx' : (x == 0) = false := beq_eq_false_iff_ne.2 hx
      case' inr.inr.inr => have hx' : (x == 0) = false := beq_eq_false_iff_ne.2 hx
      all_goals
        first | (have e := HF.out.trans (gateFin_no (.inl hx))) | (have e := HF.out.trans (gateFin_no (.inr (.inl hy)))) | (have e := HF.out.trans (gateFin_no (.inr (.inr hz)))) | (have e := HF.out.trans (gateFin_yes (by omega)))
        have HE := Lib.hid e
        clear e hx HF
        go_enter Try.func12, Try.ntmps12
        go_wp2_with fail
        refine (r04_Take' v bs pos _ _ _ _ _ h HR.out).mono ?_
        rintro e w1 ⟨rfl, rfl⟩
        go_wp2_with fail
        refine (r04_Take' v bs i _ _ _ _ _ h HS.out).mono ?_
        rintro e w1 ⟨rfl, rfl⟩
        go_wp2_with fail
        go_returns
        rw [HE.out]
        exact ⟨rfl, rfl⟩
    · rw [if_pos hg]
      have hg' : (g != 0) = true := by rw [bne_iff_ne]; exact hg
      go_enter Try.func12, Try.ntmps12
      go_wp2_with fail
      refine (r04_Take' v bs pos _ _ _ _ _ h HR.out).mono ?_
      rintro e w1 ⟨rfl, rfl⟩
      go_wp2_with fail
      refine (r04_Take' v bs i _ _ _ _ _ h HS.out).mono ?_
      rintro e w1 ⟨rfl, rfl⟩
      go_wp2_with fail
      go_returns
      exact ⟨rfl, rfl⟩
  · rw [if_pos hf]
    have hf' : (f != 0) = true := by rw [bne_iff_ne]; exact hf
    go_enter Try.func12, Try.ntmps12
    go_wp2_with fail
    refine (r04_Take' v bs pos _ _ _ _ _ h HR.out).mono ?_
    rintro e w1 ⟨rfl, rfl⟩
    go_wp2_with fail
    go_returns
    exact ⟨rfl, rfl⟩

theorem delta_Gate (v : Value) (bs : List Nat) (pos lhs : Int) (w : World) (h : BytesAt w v bs) (h1 : 2 ≤ lhs) (h2 : lhs ≤ 1152921504606846976) :
    Calls Try.prog 11 #[v, .int .i64 pos, .int .i64 lhs] w fun e w' => e = .returned (quad (gateL bs pos lhs)) ∧ Below w.heap.size w w' := by
  unfold gateL
  obtain ⟨x, i, f, hr⟩ : ∃ x i f, takeL bs pos 1152921504606846976 = (x, i, f) := ⟨_, _, _, rfl⟩
  obtain ⟨y, k, g, hs⟩ : ∃ y k g, takeL bs i 1152921504606846976 = (y, k, g) := ⟨_, _, _, rfl⟩
  simp only [hr, hs]
  have HR := Lib.hid hr
  have HS := Lib.hid hs
  clear hr hs
  by_cases hf : f = 0
  · obtain ⟨a1, a2, a3, a4⟩ := takeL_ok HR.out hf
    subst hf
    rw [if_neg (by simp)]
    by_cases hg : g = 0
    · obtain ⟨b1, b2, b3, b4⟩ := takeL_ok HS.out hg
      subst hg
      rw [if_neg (by simp)]
      obtain ⟨r, hr⟩ : ∃ r, r = gateFin lhs x y k := ⟨_, rfl⟩
      rw [← hr]
      have HF := Lib.hid hr
      clear hr
      rcases (show x = 0 ∨ (x ≠ 0 ∧ lhs < x) ∨ (x ≠ 0 ∧ x ≤ lhs ∧ lhs - x < y) ∨ (x ≠ 0 ∧ x ≤ lhs ∧ y ≤ lhs - x) by omega) with hx | ⟨hx, hy⟩ | ⟨hx, hy, hz⟩ | ⟨hx, hy, hz⟩
      case' inl => have hz : (x == 0) = true := beq_iff_eq.2 hx
      case' inr.inl => have hx' : (x == 0) = false := beq_eq_false_iff_ne.2 hx
      case' inr.inr.inl => have hx' : (x == 0) = false := beq_eq_false_iff_ne.2 hx
      case' inr.inr.inr => have hx' : (x == 0) = false := beq_eq_false_iff_ne.2 hx
      all_goals
        first | (have e := HF.out.trans (gateFin_no (.inl hx))) | (have e := HF.out.trans (gateFin_no (.inr (.inl hy)))) | (have e := HF.out.trans (gateFin_no (.inr (.inr hz)))) | (have e := HF.out.trans (gateFin_yes (by omega)))
        have HE := Lib.hid e
        clear e hx HF
        go_enter Try.func11, Try.ntmps11
        go_wp2_with fail
        refine wp_loop_rounds 3 ?_
        rw [rounds_succ]
        go_wp2_with fail
        refine (delta_Take' v bs pos _ _ _ _ _ (h.below ?_) HR.out).mono ?_
        · exact (Below.refl _ _).alloc (Nat.le_refl _) _
        rintro e w1 ⟨rfl, rfl⟩
        go_wp2_with fail
        rw [rounds_succ]
        go_wp2_with fail
        refine (delta_Take' v bs i _ _ _ _ _ (h.below ?_) HS.out).mono ?_
        · exact (Below.refl _ _).alloc (Nat.le_refl _) _
        rintro e w1 ⟨rfl, rfl⟩
        go_wp2_with fail
        rw [rounds_succ]
        go_wp2_with fail
        try (go_quiet (fail); go_wp2_with fail)
        go_returns
        rw [HE.out]
        exact ⟨rfl, by first | exact (Below.refl _ _).alloc (Nat.le_refl _) _ | exact below_drewN ((Below.refl _ _).alloc (Nat.le_refl _) _) _⟩
    · rw [if_pos hg]
      have hg' : (g != 0) = true := by rw [bne_iff_ne]; exact hg
      go_enter Try.func11, Try.ntmps11
      go_wp2_with fail
      refine wp_loop_rounds 3 ?_
      rw [rounds_succ]
      go_wp2_with fail
      refine (delta_Take' v bs pos _ _ _ _ _ (h.below ?_) HR.out).mono ?_
      · exact (Below.refl _ _).alloc (Nat.le_refl _) _
      rintro e w1 ⟨rfl, rfl⟩
      go_wp2_with fail
      rw [rounds_succ]
      go_wp2_with fail
      refine (delta_Take' v bs i _ _ _ _ _ (h.below ?_) HS.out).mono ?_
      · exact (Below.refl _ _).alloc (Nat.le_refl _) _
      rintro e w1 ⟨rfl, rfl⟩
      go_wp2_with fail
      go_returns
      exact ⟨rfl, (Below.refl _ _).alloc (Nat.le_refl _) _⟩
  · rw [if_pos hf]
    have hf' : (f != 0) = true := by rw [bne_iff_ne]; exact hf
    go_enter Try.func11, Try.ntmps11
    go_wp2_with fail
    refine wp_loop_rounds 3 ?_
    rw [rounds_succ]
    go_wp2_with fail
    refine (delta_Take' v bs pos _ _ _ _ _ (h.below ?_) HR.out).mono ?_
    · exact (Below.refl _ _).alloc (Nat.le_refl _) _
    rintro e w1 ⟨rfl, rfl⟩
    go_wp2_with fail
    go_returns
    exact ⟨rfl, (Below.refl _ _).alloc (Nat.le_refl _) _⟩

end Go.Proofs.Ytnkfohcekingfaa
