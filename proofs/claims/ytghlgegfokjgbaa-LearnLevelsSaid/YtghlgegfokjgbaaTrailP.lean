/-
  PLAIN LAWS on a trail's data; a trail that lies above everything that came in.
-/
import Derived.Test.YtghlgegfokjgbaaTrail6
import Derived.Test.YtghlgegfokjgbaaClone
namespace Go.Proofs.Ytghlgegfokjgbaa
open Go.ChangeShapes Go.WideShapes Go.ChangeAt Go.RowKit
set_option linter.unusedVariables false

theorem TrailAt.chg {w w' : World} {t : Nat} {s : TS} {fp : List Nat} {S : Nat → Prop} (h : TrailAt w t s fp) (hc : Chg S w w') (hn : ∀ k ∈ fp, ¬ S k) : TrailAt w' t s fp := by
  obtain ⟨vl, gm, cm, vv, vw, hp, rfl⟩ := h.parts
  refine Parts.trail (hp.chg hc (hn t (by simp)) (fun g hg => hn g ?_) (fun g hg => hn g ?_) (fun g hg => hn g ?_) (fun g hg => hn g ?_))
  · simp [hg]
  · have : gm = g := by simpa [Value.ownBlock] using hg
    subst this; simp
  · simp [hg]
  · simp [hg]
theorem TrailAt.below {w w' : World} {t : Nat} {s : TS} {fp : List Nat} (h : TrailAt w t s fp) (hb : Below w.heap.size w w') : TrailAt w' t s fp := h.chg (S := fun _ => False) (Chg.of_below hb) (fun _ _ h => h)

/-- The trail lies above block B; below it nothing has turned since w0. -/
def Obj (B : Nat) (w0 w : World) (t : Nat) (s : TS) : Prop := ∃ fp, TrailAt w t s fp ∧ (∀ k ∈ fp, B ≤ k) ∧ Below B w0 w ∧ B ≤ w.heap.size
theorem Obj.done {B : Nat} {w0 w w' : World} {t : Nat} {s s' : TS} {fp : List Nat} (ht : TrailAt w t s fp) (hf : ∀ k ∈ fp, B ≤ k) (hb : Below B w0 w) (hB : B ≤ w.heap.size) (h : Done w fp t s' w') : Obj B w0 w' t s' := by
  obtain ⟨fp', hT, hc, hn⟩ := h
  refine ⟨fp', hT, fun k hk => ?_, hb.trans (hc.below hB hf), Nat.le_trans hB hc.size⟩
  rcases hn k hk with h | h
  · exact hf k h
  · omega
theorem Obj.below {B : Nat} {w0 w w' : World} {t : Nat} {s : TS} (h : Obj B w0 w t s) (hb : Below w.heap.size w w') : Obj B w0 w' t s := by
  obtain ⟨fp, hT, hf, hb0, hB⟩ := h
  exact ⟨fp, hT.below hb, hf, hb0.trans (hb.mono hB), Nat.le_trans hB hb.size⟩

theorem varOf_pos {v : Int} (h : 1 ≤ v) : varOf v = v := by unfold varOf; rw [if_neg (by omega)]
theorem put_ms_len (s : TS) (l r : Int) : (s.put l r).ms.length = s.ms.length := by simp [TS.put]
theorem put_has (s : TS) (l r v : Int) : (s.put l r).has v = s.has v := by unfold TS.has; rw [put_ms_len]
theorem up_has (s : TS) (v : Int) : s.up.has v = s.has v := rfl

theorem TS.ok.put {s : TS} (h : s.ok) (l r : Int) (hf : s.isFree l = true) (hs : s.l.length + 1 ≤ 1099511627776) : (s.put l r).ok := by
  have hv : s.has (varOf l) = true := by unfold TS.isFree at hf; rw [Bool.and_eq_true] at hf; exact hf.1
  refine ⟨fun x hx => ?_, fun p hp => ?_, ?_, ?_, ?_, ?_⟩
  · rw [put_has]
    simp only [TS.put, List.mem_append, List.mem_singleton] at hx
    rcases hx with hx | rfl
    · exact h.vars x hx
    · exact hv
  · have := h.lev p hp
    simp only [TS.put, List.length_append, List.length_singleton]; omega
  · simp only [TS.put, List.length_append, h.wh, List.length_singleton]
  · have := h.lvl; simp only [TS.put, List.length_append, List.length_singleton]; omega
  · simp only [TS.put, List.length_append, List.length_singleton]; exact hs
  · have := h.now0; show 0 ≤ s.now + 1; omega
theorem TS.ok.upput {s : TS} (h : s.ok) (l r : Int) (hf : s.isFree l = true) (hs : s.l.length + 1 ≤ 1099511627776) : (s.up.put l r).ok := by
  have hv : s.has (varOf l) = true := by unfold TS.isFree at hf; rw [Bool.and_eq_true] at hf; exact hf.1
  refine ⟨fun x hx => ?_, fun p hp => ?_, ?_, ?_, ?_, ?_⟩
  · rw [put_has, up_has]
    simp only [TS.put, TS.up, List.mem_append, List.mem_singleton] at hx
    rcases hx with hx | rfl
    · exact h.vars x hx
    · exact hv
  · simp only [TS.put, TS.up, List.mem_append, List.mem_singleton] at hp
    simp only [TS.put, TS.up, List.length_append, List.length_singleton]
    rcases hp with hp | rfl
    · have := h.lev p hp; omega
    · omega
  · simp only [TS.put, TS.up, List.length_append, h.wh, List.length_singleton]
  · have := h.lvl; simp only [TS.put, TS.up, List.length_append, List.length_singleton]; omega
  · simp only [TS.put, TS.up, List.length_append, List.length_singleton]; exact hs
  · have := h.now0; show 0 ≤ s.now + 1; omega
theorem ok_new (n : Nat) : (TS.new n).ok := ⟨by simp [TS.new], by simp [TS.new], rfl, by simp [TS.new], by simp [TS.new], by simp [TS.new]⟩

/-- Each mark's sign is -1, 0 or 1. -/
def Signs (s : TS) : Prop := ∀ m ∈ s.ms, -1 ≤ m.1 ∧ m.1 ≤ 1
theorem signs_new (n : Nat) : Signs (TS.new n) := by
  intro m hm
  have := List.eq_of_mem_replicate hm
  subst this; simp
theorem Signs.put {s : TS} (h : Signs s) (l r : Int) : Signs (s.put l r) := by
  intro m hm
  rcases List.mem_or_eq_of_mem_set hm with hm | rfl
  · exact h m hm
  · show -1 ≤ signOf l ∧ signOf l ≤ 1
    unfold signOf; split <;> simp
theorem Signs.up {s : TS} (h : Signs s) : Signs s.up := h
theorem Signs.back {s : TS} (h : Signs s) (level : Nat) : Signs (s.back level) := by
  unfold TS.back
  split
  · exact h
  · show ∀ m ∈ goneMs s (s.lv.getD level 0).toNat, _
    unfold goneMs
    generalize (s.l.drop (s.lv.getD level 0).toNat).reverse.map varOf = vs
    have : ∀ (vs : List Int) (ms : List Mk), (∀ m ∈ ms, -1 ≤ m.1 ∧ m.1 ≤ 1) → ∀ m ∈ vs.foldl clearV ms, -1 ≤ m.1 ∧ m.1 ≤ 1 := by
      intro vs
      induction vs with
      | nil => intro ms h; exact h
      | cons v vs ih =>
        intro ms h
        rw [List.foldl_cons]
        refine ih _ fun m hm => ?_
        rcases List.mem_or_eq_of_mem_set hm with hm | rfl
        · exact h m hm
        · simp
    exact this vs s.ms h

theorem cleared (ms : List Mk) : ∀ (vs : List Int) (ms : List Mk) (v : Int), (v ∈ vs ∨ ms.getD v.toNat (0, 0, 0) = (0, 0, 0)) → (vs.foldl clearV ms).getD v.toNat (0, 0, 0) = (0, 0, 0) := by
  intro vs
  induction vs with
  | nil => intro ms v h; rcases h with h | h; simp at h; exact h
  | cons x vs ih =>
    intro ms v h
    rw [List.foldl_cons]
    refine ih _ v ?_
    rcases h with h | h
    · rcases List.mem_cons.1 h with rfl | h
      · right
        unfold clearV
        by_cases hl : v.toNat < ms.length
        · simp [List.getD, hl]
        · simp [List.getD, List.getElem?_eq_none (show (ms.set v.toNat (0, 0, 0)).length ≤ v.toNat by simp; omega)]
      · exact .inl h
    · right
      unfold clearV
      by_cases hx : x.toNat = v.toNat
      · by_cases hl : v.toNat < ms.length
        · simp [List.getD, hx, hl]
        · simp [List.getD, List.getElem?_eq_none (show (ms.set x.toNat (0, 0, 0)).length ≤ v.toNat by simp; omega)]
      · simp only [List.getD, List.getElem?_set_ne hx] at h ⊢
        exact h
/-- What has gone is not assigned. -/
theorem gone_none {s : TS} (hok : s.ok) {level : Nat} {v : Int} (hv : v ∈ s.backVs level) : (s.back level).value v = 0 ∧ (s.back level).level v = -1 := by
  unfold TS.backVs at hv
  by_cases hl : s.lv.length ≤ level
  · rw [if_pos hl] at hv; simp at hv
  · rw [if_neg hl] at hv
    have hb : s.back level = { l := s.l.take (s.lv.getD level 0).toNat, ms := goneMs s (s.lv.getD level 0).toNat, lv := s.lv.take level, wh := s.wh.take (s.lv.getD level 0).toNat, now := s.now } := by
      unfold TS.back; rw [if_neg hl]
    have hm : (goneMs s (s.lv.getD level 0).toNat).getD v.toNat (0, 0, 0) = (0, 0, 0) := cleared s.ms _ _ _ (.inl hv)
    have h1 : 1 ≤ v := by
      unfold goneVs at hv
      simp only [List.mem_map, List.mem_reverse] at hv
      obtain ⟨x, hx, rfl⟩ := hv
      have := hok.vars x (List.mem_of_mem_drop hx)
      exact (of_decide_eq_true this).1
    have hmk : (s.back level).mark v = (0, 0, 0) := by rw [hb]; exact hm
    constructor
    · unfold TS.value
      rw [varOf_pos h1, hmk]; simp
    · unfold TS.level
      rw [hmk]; simp

/-! ### The acts of TrailUndoes -/
abbrev Act := Int × Int × Int
def act1 (s : TS) (a : Act) : TS :=
  if a.1 = 0 then (if s.isFree a.2.1 then s.up.put a.2.1 (-1) else s) else (if s.isFree a.2.1 then s.put a.2.1 a.2.2 else s)
def act2 (p : TS × Bool) (a : Act) : TS × Bool :=
  if a.1 = 0 then (if p.1.isFree a.2.1 then (p.1.up.put a.2.1 (-1), true) else p) else (if p.2 && p.1.isFree a.2.1 then (p.1.put a.2.1 a.2.2, p.2) else p)
/-- What holds of the trail's data after k acts. -/
def Good (s : TS) (k : Nat) : Prop := s.ok ∧ Signs s ∧ s.l.length ≤ k ∧ s.now ≤ k
theorem Good.mono {s : TS} {k : Nat} (h : Good s k) : Good s (k + 1) := ⟨h.1, h.2.1, by have := h.2.2.1; omega, by have := h.2.2.2; omega⟩
theorem Good.put {s : TS} {k : Nat} (h : Good s k) (l r : Int) (hf : s.isFree l = true) (hk : k ≤ 1000) : Good (s.put l r) (k + 1) := by
  obtain ⟨h1, h2, h3, h4⟩ := h
  refine ⟨h1.put l r hf (by omega), h2.put l r, ?_, ?_⟩
  · simp only [TS.put, List.length_append, List.length_singleton]; omega
  · show s.now + 1 ≤ ((k + 1 : Nat) : Int); omega
theorem Good.upput {s : TS} {k : Nat} (h : Good s k) (l r : Int) (hf : s.isFree l = true) (hk : k ≤ 1000) : Good (s.up.put l r) (k + 1) := by
  obtain ⟨h1, h2, h3, h4⟩ := h
  refine ⟨h1.upput l r hf (by omega), h2.up.put l r, ?_, ?_⟩
  · simp only [TS.put, TS.up, List.length_append, List.length_singleton]; omega
  · show s.now + 1 ≤ ((k + 1 : Nat) : Int); omega
theorem Good.act1 {s : TS} {k : Nat} (h : Good s k) (a : Act) (hk : k ≤ 1000) : Good (act1 s a) (k + 1) := by
  unfold Go.Proofs.Ytghlgegfokjgbaa.act1
  split <;> split
  · exact h.upput _ _ ‹_› hk
  · exact h.mono
  · exact h.put _ _ ‹_› hk
  · exact h.mono
theorem Good.act2 {p : TS × Bool} {k : Nat} (h : Good p.1 k) (a : Act) (hk : k ≤ 1000) : Good (act2 p a).1 (k + 1) := by
  unfold Go.Proofs.Ytghlgegfokjgbaa.act2
  split
  · split
    · exact h.upput _ _ ‹_› hk
    · exact h.mono
  · split
    · rename_i hh; rw [Bool.and_eq_true] at hh; exact h.put _ _ hh.2 hk
    · exact h.mono
/-- Above: either nothing has been decided, and nothing has turned; or the trail goes on from s. -/
def Above (s : TS) (p : TS × Bool) : Prop :=
  if p.2 then (∃ ls, p.1.l = s.l ++ ls) ∧ ∃ vs, p.1.lv = s.lv ++ ((s.l.length : Int) :: vs) else p.1 = s
theorem Above.act2 {s : TS} {p : TS × Bool} (h : Above s p) (a : Act) : Above s (act2 p a) := by
  unfold Go.Proofs.Ytghlgegfokjgbaa.act2
  split
  · split
    · show Above s (p.1.up.put a.2.1 (-1), true)
      unfold Above at h ⊢
      simp only [if_true]
      cases hp : p.2
      · rw [hp] at h; simp only [Bool.false_eq_true, if_false] at h
        rw [h]
        exact ⟨⟨_, rfl⟩, [], rfl⟩
      · rw [hp] at h; simp only [if_true] at h
        obtain ⟨⟨ls, e1⟩, vs, e2⟩ := h
        exact ⟨⟨ls ++ [a.2.1], by simp [TS.put, TS.up, e1]⟩, vs ++ [(p.1.l.length : Int)], by simp [TS.put, TS.up, e2]⟩
    · exact h
  · split
    · rename_i hh; rw [Bool.and_eq_true] at hh
      show Above s (p.1.put a.2.1 a.2.2, p.2)
      unfold Above at h ⊢
      simp only [hh.1, if_true] at h ⊢
      obtain ⟨⟨ls, e1⟩, vs, e2⟩ := h
      exact ⟨⟨ls ++ [a.2.1], by simp [TS.put, e1]⟩, vs, by simp [TS.put, e2]⟩
    · exact h
theorem above_start (s : TS) : Above s (s, false) := by unfold Above; simp
theorem above_fold (s : TS) : ∀ (xs : List Act) (p : TS × Bool), Above s p → Above s (xs.foldl act2 p) := by
  intro xs
  induction xs with
  | nil => intro p h; exact h
  | cons a xs ih => intro p h; rw [List.foldl_cons]; exact ih _ (h.act2 a)
/-- Going back to the depth leaves the literals and the depth as they were. -/
theorem above_back {s : TS} {p : TS × Bool} (h : Above s p) : (p.1.back s.lv.length).l = s.l ∧ (p.1.back s.lv.length).lv.length = s.lv.length := by
  unfold Above at h
  cases hp : p.2
  · rw [hp] at h; simp only [Bool.false_eq_true, if_false] at h
    rw [h]; unfold TS.back; rw [if_pos (Nat.le_refl _)]; exact ⟨rfl, rfl⟩
  · rw [hp] at h; simp only [if_true] at h
    obtain ⟨⟨ls, e1⟩, vs, e2⟩ := h
    unfold TS.back
    rw [if_neg (by rw [e2]; simp)]
    have e3 : p.1.lv.getD s.lv.length 0 = (s.l.length : Int) := by rw [e2]; simp [List.getD]
    rw [e3]
    simp [e1, e2]
end Go.Proofs.Ytghlgegfokjgbaa
/-
  Package trail: Lits, At, When.
-/
namespace Go.Proofs.Ytghlgegfokjgbaa
open Go.ChangeShapes Go.WideShapes Go.ChangeAt Go.RowKit
set_option linter.unusedVariables false

theorem trail_Lits {w : World} {t : Nat} {s : TS} {fp : List Nat} (h : TrailAt w t s fp) (hs : s.l.length ≤ 1099511627776) :
    Calls Try.prog 23 #[.pointer (some ⟨t, 0, none⟩)] w fun e w' => ∃ u, e = .returned u ∧ ClonePost w s.l u w' := by
  obtain ⟨vl, gm, cm, vv, vw, hp, rfl⟩ := h.parts
  obtain ⟨k0, -, -, -, -, -⟩ := hp.c
  have hl : Ints w vl s.l := Row.ints hp.l
  obtain ⟨al, cl, rfl⟩ := own_slice hp.l
  have HL := Lib.hid hl
  clear hp h hl
  go_enter Try.func23, Try.ntmps23
  go_wp2_with ((go_at_call 27; refine (slices_Clone HL.out hs).mono ?_; rintro e w1 ⟨u, rfl, hp⟩))
  go_ret
  exact ⟨u, rfl, hp⟩


theorem trail_At {w : World} {t : Nat} {s : TS} {fp : List Nat} (h : TrailAt w t s fp) (i : Nat) (hi : i < s.l.length) :
    Calls Try.prog 34 #[.pointer (some ⟨t, 0, none⟩), .int .i64 i] w fun e w' => e = .returned (.int .i64 (s.l.getD i 0)) ∧ w = w' := by
  have HL := Lib.hid (trail_Len h)
  obtain ⟨vl, gm, cm, vv, vw, hb, hl, hm, hv, hw, -, -⟩ := h
  have hc := TrailAt.cells hb hm
  have c0 := hc.c0
  rcases hl.form with ⟨-, hn, -⟩ | ⟨g, cap, rfl, hn1, hn2, -, hcell⟩
  · omega
  · have q := (hcell i (by simpa using hi)).1
    rw [getD_map _ _ hi] at q
    obtain ⟨x, hx⟩ : ∃ x, x = s.l.getD i 0 := ⟨_, rfl⟩
    rw [← hx] at q ⊢
    obtain ⟨n, hnn⟩ : ∃ n, n = s.l.length := ⟨_, rfl⟩
    rw [← hnn] at HL hi c0 hn1
    have h0 : (0 : Int) ≤ (i : Int) := by omega
    have h1 : (i : Int) < (n : Int) := by omega
    clear hb hl hm hv hw hc hcell hx hnn
    go_enter Try.func34, Try.ntmps34
    go_wp2_with ((go_at_call 33; refine (HL.out).mono ?_; rintro e w' ⟨rfl, rfl⟩))
    go_ret
    exact ⟨rfl, rfl⟩
theorem trail_When_off {w : World} {t : Nat} {s : TS} {fp : List Nat} (h : TrailAt w t s fp) (i : Nat) (hi : s.l.length ≤ i) :
    Calls Try.prog 36 #[.pointer (some ⟨t, 0, none⟩), .int .i64 i] w fun e w' => e = .returned (.int .i64 0) ∧ w = w' := by
  have HL := Lib.hid (trail_Len h)
  obtain ⟨n, hnn⟩ : ∃ n, n = s.l.length := ⟨_, rfl⟩
  rw [← hnn] at HL hi
  have h0 : (0 : Int) ≤ (i : Int) := by omega
  have h1 : (n : Int) ≤ (i : Int) := by omega
  clear h hnn
  go_enter Try.func36, Try.ntmps36
  go_wp2_with ((go_at_call 33; refine (HL.out).mono ?_; rintro e w' ⟨rfl, rfl⟩))
  go_ret
  exact ⟨rfl, rfl⟩
theorem trail_When {w : World} {t : Nat} {s : TS} {fp : List Nat} (h : TrailAt w t s fp) (i : Nat) (hi : i < s.l.length) (hwl : s.wh.length = s.l.length) :
    Calls Try.prog 36 #[.pointer (some ⟨t, 0, none⟩), .int .i64 i] w fun e w' => e = .returned (.int .i64 (s.wh.getD i 0)) ∧ w = w' := by
  have HL := Lib.hid (trail_Len h)
  obtain ⟨vl, gm, cm, vv, vw, hb, hl, hm, hv, hw, -, -⟩ := h
  have hc := TrailAt.cells hb hm
  have c3 := hc.c3
  rcases hw.form with ⟨-, hn, -⟩ | ⟨g, cap, rfl, hn1, hn2, -, hcell⟩
  · omega
  · have q := (hcell i (by simp; omega)).1
    rw [getD_map _ _ (by omega)] at q
    obtain ⟨x, hx⟩ : ∃ x, x = s.wh.getD i 0 := ⟨_, rfl⟩
    rw [← hx] at q ⊢
    obtain ⟨n, hnn⟩ : ∃ n, n = s.l.length := ⟨_, rfl⟩
    rw [hwl] at hn1 c3
    rw [← hnn] at HL hi c3 hn1
    have h0 : (0 : Int) ≤ (i : Int) := by omega
    have h1 : (i : Int) < (n : Int) := by omega
    clear hb hl hm hv hw hc hcell hx hnn hwl
    go_enter Try.func36, Try.ntmps36
    go_wp2_with ((go_at_call 33; refine (HL.out).mono ?_; rintro e w' ⟨rfl, rfl⟩))
    go_ret
    exact ⟨rfl, rfl⟩
end Go.Proofs.Ytghlgegfokjgbaa
