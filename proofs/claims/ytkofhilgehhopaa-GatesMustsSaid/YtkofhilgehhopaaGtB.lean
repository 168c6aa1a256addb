/-
  Package gates: what is fine; calls of literals that may not be, and of nil gates, walked.
-/
import Derived.Test.YtkofhilgehhopaaGtA
namespace Go.Proofs.Ytkofhilgehhopaa
open Go Go.ChangeShapes Go.WideShapes Go.ChangeAt Go.RowKit Go.Maps
set_option linter.unusedVariables false
set_option linter.unusedSimpArgs false
theorem al1 (w : World) (o : Obj) : Below w.heap.size w (w.alloc o) := (Below.refl _ _).alloc (Nat.le_refl _) _
theorem al2 (w : World) (o1 o2 : Obj) : Below w.heap.size w ((w.alloc o1).alloc o2) := (al1 w o1).alloc (by simp) _
theorem al3 (w : World) (o1 o2 o3 : Obj) : Below w.heap.size w (((w.alloc o1).alloc o2).alloc o3) := (al2 w o1 o2).alloc (by simp; omega) _
theorem al4 (w : World) (o1 o2 o3 o4 : Obj) : Below w.heap.size w ((((w.alloc o1).alloc o2).alloc o3).alloc o4) := (al3 w o1 o2 o3).alloc (by simp; omega) _
theorem ints_lit (W : World) (k : Nat) (hk : W.heap.size = k) (xs : List Int) (hx : xs.length ≤ 1000) : Ints (W.alloc (.cells (xs.map iv).toArray 3)) (.slice (some ⟨k, 0, none⟩) xs.length xs.length) xs := by
  subst hk
  refine ⟨some ⟨W.heap.size, 0, none⟩, xs.length, rfl, fun h => by simp at h, Nat.le_refl _, by unfold maxLen; omega, .inr ⟨W.heap.size, 0, rfl, fun j hj => ?_⟩⟩
  have hB := Blk.new W 3 (xs.map iv).toArray
  rw [Nat.zero_add, hB.cell j]
  simp [hj, iv, List.getD]
theorem int1 (W : World) (k : Nat) (hk : W.heap.size = k) (a : Int) : Ints (W.alloc (.cells #[.int .i64 a] 3)) (.slice (some ⟨k, 0, none⟩) 1 1) [a] := ints_lit W k hk [a] (by simp)
theorem int2 (W : World) (k : Nat) (hk : W.heap.size = k) (a b : Int) : Ints (W.alloc (.cells #[.int .i64 a, .int .i64 b] 3)) (.slice (some ⟨k, 0, none⟩) 2 2) [a, b] := ints_lit W k hk [a, b] (by simp)
theorem int3 (W : World) (k : Nat) (hk : W.heap.size = k) (a b c : Int) : Ints (W.alloc (.cells #[.int .i64 a, .int .i64 b, .int .i64 c] 3)) (.slice (some ⟨k, 0, none⟩) 3 3) [a, b, c] := ints_lit W k hk [a, b, c] (by simp)
/-- Which number is no literal. -/
def badG (n x : Int) : Bool := decide (x = 0) || decide (n < max x (wrap64 (-x))) || decide (wrap64 (-x) = x)
set_option maxHeartbeats 1000000 in
theorem fine1 {fp : Nat → Prop} {B : Nat} {w : World} {g f m bx : Nat} {n : Int} {xss : List (List Int)} {D : DataW Unit} (h : GAt fp B w g f m n xss D) (hbox : w.cell? ⟨bx, 0, none⟩ = some (.pointer (some ⟨g, 0, none⟩))) (x : Int) :
    Calls Try.prog 60 #[.int .i64 x, .pointer (some ⟨bx, 0, none⟩)] w fun e w' => e = .returned (.bool (badG n x)) ∧ w = w' := by
  obtain ⟨c0, c1, c2⟩ := h.cells
  have HV := Lib.hid (Vars_ h.fo.toF)
  obtain ⟨ans, hans⟩ : ∃ ans, ans = badG n x := ⟨_, rfl⟩
  rw [← hans]
  have HA := Lib.hid hans
  clear h hans c1 c2
  by_cases hx : x = 0
  · have HE : Hid (ans = true) := Lib.hid (by rw [HA.out]; unfold badG; rw [decide_eq_true hx]; rfl)
    subst hx
    go_enter Try.func60, Try.ntmps60
    go_wp2
    go_ret
    exact ⟨by rw [HE.out]; rfl, rfl⟩
  · have d0 : (x == 0) = false := by rw [beq_eq_false_iff_ne]; exact hx
    by_cases h1 : n < max x (wrap64 (-x))
    · have HE : Hid (ans = true) := Lib.hid (by rw [HA.out]; unfold badG; rw [decide_eq_true h1]; simp)
      have d1 : decide (n < max x (wrap64 (-x))) = true := decide_eq_true h1
      clear hx h1
      go_enter Try.func60, Try.ntmps60
      go_wp2_with ((go_at_call 9; refine (HV.out).mono ?_; rintro e w' ⟨rfl, rfl⟩))
      go_ret
      exact ⟨by rw [HE.out]; rfl, rfl⟩
    · have d1 : decide (n < max x (wrap64 (-x))) = false := decide_eq_false h1
      by_cases h2 : wrap64 (-x) = x
      · have HE : Hid (ans = true) := Lib.hid (by rw [HA.out]; unfold badG; rw [decide_eq_true h2]; simp)
        have d2 : (wrap64 (-x) == x) = true := by rw [beq_iff_eq]; exact h2
        clear hx h1 h2
        go_enter Try.func60, Try.ntmps60
        go_wp2_with ((go_at_call 9; refine (HV.out).mono ?_; rintro e w' ⟨rfl, rfl⟩))
        go_ret
        exact ⟨by rw [HE.out]; rfl, rfl⟩
      · have HE : Hid (ans = false) := Lib.hid (by rw [HA.out]; unfold badG; rw [decide_eq_false h2, decide_eq_false h1, decide_eq_false hx]; rfl)
        have d2 : (wrap64 (-x) == x) = false := by rw [beq_eq_false_iff_ne]; exact h2
        clear hx h1 h2
        go_enter Try.func60, Try.ntmps60
        go_wp2_with ((go_at_call 9; refine (HV.out).mono ?_; rintro e w' ⟨rfl, rfl⟩))
        go_ret
        exact ⟨by rw [HE.out]; rfl, rfl⟩
theorem cfun_fine {fp : Nat → Prop} {B : Nat} {w : World} {g f m bx b off cap : Nat} {n : Int} {xss : List (List Int)} {D : DataW Unit} {l : List Int} (h : GAt fp B w g f m n xss D) (hl : l.length ≤ 9223372036854775807) (hbox : w.cell? ⟨bx, 0, none⟩ = some (.pointer (some ⟨g, 0, none⟩)))
    (hc : ∀ j, j < l.length → w.cell? ⟨b, off + j, none⟩ = some (.int .i64 (l.getD j 0))) :
    Calls Try.prog 42 #[.slice (some ⟨b, off, none⟩) l.length cap, .func (.func 60) #[] #[.pointer (some ⟨bx, 0, none⟩)]] w fun e w' => e = .returned (.bool (l.any (badG n))) ∧ Quiet w w' := by
  have eg : ∀ args w, (callFunc 60 args).run Try.prog w = .ok (.enter 60 args) w := enters_of Try.func60 (by kernel_rfl) rfl
  have hlt := World.block_lt_of_cell? w _ hbox
  have hp : PredAt Try.prog 60 #[.pointer (some ⟨bx, 0, none⟩)] encI (badG n) w := fun W x hW =>
    (fine1 (h.below hW) ((hW.cell (p := ⟨bx, 0, none⟩) hlt).trans hbox) x).mono fun e w' ⟨h1, h2⟩ => ⟨h1, 0, h2.symm⟩
  have h := AnyE.slices_ContainsFunc Try.hasF encI (badG n) 60 #[.pointer (some ⟨bx, 0, none⟩)] eg b off l.length cap l w hp (Nat.le_refl _) hl (fun j hj => by
    rw [hc j hj]
    simp [encI, List.getD, hj])
  refine h.mono fun e w' ⟨h1, h2⟩ => ⟨?_, h2⟩
  rw [h1, List.take_length]
set_option maxHeartbeats 1000000 in
/-- Are literals such as may be? -/
theorem fine_ {fp : Nat → Prop} {B : Nat} {w : World} {g f m : Nat} {n : Int} {xss : List (List Int)} {D : DataW Unit} {u : Value} {l : List Int} (h : GAt fp B w g f m n xss D) (hi : Ints w u l) :
    Calls Try.prog 28 #[.pointer (some ⟨g, 0, none⟩), u] w fun e w' => e = .returned (.bool (!l.any (badG n))) ∧ Below w.heap.size w w' := by
  obtain ⟨c0, c1, c2⟩ := h.cells
  obtain ⟨a, cap, rfl, -, k1, k2, k3⟩ := hi
  rcases k3 with rfl | ⟨b, off, rfl, hc⟩
  · have c2' : (w.alloc (.cells #[.pointer (some ⟨g, 0, none⟩)] 22)).cell? ⟨g, 2, none⟩ = some (.bool false) := (h.below (al1 _ _)).cells.2.2
    clear h c0 c1 c2 k1 k2
    go_enter Try.func28, Try.ntmps28
    go_wp2_with ((go_at_call 42; refine (cfun_none _ _ _ _).mono ?_; rintro e w' ⟨rfl, rfl⟩))
    go_ret
    exact ⟨rfl, al1 _ _⟩
  · have hB1 := al1 w (.cells #[.pointer (some ⟨g, 0, none⟩)] 22)
    have hcc := cfun_fine (w := w.alloc (.cells #[.pointer (some ⟨g, 0, none⟩)] 22)) (bx := w.heap.size) (b := b) (off := off) (cap := cap) (l := l) (h.below hB1) (Nat.le_trans k1 k2)
      ((Blk.new w 22 #[.pointer (some ⟨g, 0, none⟩)]).cell 0) (fun j hj => by
        have := hc j hj
        exact (hB1.cell (p := ⟨b, off + j, none⟩) (World.block_lt_of_cell? w _ this)).trans this)
    have HC := Lib.hid hcc
    have HB := Lib.hid hB1
    obtain ⟨q, hq⟩ : ∃ q, q = l.any (badG n) := ⟨_, rfl⟩
    rw [← hq] at HC ⊢
    obtain ⟨n', hn⟩ : ∃ n', n' = l.length := ⟨_, rfl⟩
    rw [← hn] at HC ⊢
    have c2' : (w.alloc (.cells #[.pointer (some ⟨g, 0, none⟩)] 22)).cell? ⟨g, 2, none⟩ = some (.bool false) := (h.below hB1).cells.2.2
    clear hcc hB1 hc k1 k2 hn hq h c0 c1 c2
    go_enter Try.func28, Try.ntmps28
    go_wp2_with ((go_at_call 42; refine (HC.out).mono ?_; rintro e w' ⟨rfl, hq⟩))
    go_ret
    exact ⟨rfl, HB.out.trans (hq.below.mono HB.out.size)⟩
theorem fine_nil (v : Value) (w : World) : Calls Try.prog 28 #[.pointer none, v] w fun e w' => e = .returned (.bool false) ∧ Below w.heap.size w w' := by
  go_enter Try.func28, Try.ntmps28
  go_wp2
  go_ret
  exact ⟨rfl, al1 _ _⟩
/-! ### calls of nil gates -/
theorem And_nil (a b : Int) (w : World) : Calls Try.prog 10 #[.pointer none, .int .i64 a, .int .i64 b] w fun e w' => e = .returned (.int .i64 0) ∧ Below w.heap.size w w' := by
  go_enter Try.func10, Try.ntmps10
  go_wp2_with ((go_at_call 28; refine (fine_nil _ _).mono ?_; rintro e w1 ⟨rfl, hb⟩))
  go_ret
  exact ⟨rfl, (al3 _ _ _ _).trans (hb.mono (al3 _ _ _ _).size)⟩
theorem Or_nil (a b : Int) (w : World) : Calls Try.prog 17 #[.pointer none, .int .i64 a, .int .i64 b] w fun e w' => e = .returned (.int .i64 0) ∧ Below w.heap.size w w' := by
  go_enter Try.func17, Try.ntmps17
  go_wp2_with ((go_at_call 10; refine (And_nil _ _ _).mono ?_; rintro e w1 ⟨rfl, hb⟩))
  go_ret
  exact ⟨rfl, hb⟩
theorem Xor_nil (a b : Int) (w : World) : Calls Try.prog 11 #[.pointer none, .int .i64 a, .int .i64 b] w fun e w' => e = .returned (.int .i64 0) ∧ Below w.heap.size w w' := by
  go_enter Try.func11, Try.ntmps11
  go_wp2_with ((go_at_call 28; refine (fine_nil _ _).mono ?_; rintro e w1 ⟨rfl, hb⟩))
  go_ret
  exact ⟨rfl, (al3 _ _ _ _).trans (hb.mono (al3 _ _ _ _).size)⟩
theorem Choose_nil (c a b : Int) (w : World) : Calls Try.prog 12 #[.pointer none, .int .i64 c, .int .i64 a, .int .i64 b] w fun e w' => e = .returned (.int .i64 0) ∧ Below w.heap.size w w' := by
  go_enter Try.func12, Try.ntmps12
  go_wp2_with ((go_at_call 28; refine (fine_nil _ _).mono ?_; rintro e w1 ⟨rfl, hb⟩))
  go_ret
  exact ⟨rfl, (al4 _ _ _ _ _).trans (hb.mono (al4 _ _ _ _ _).size)⟩
theorem All_nil (v : Value) (w : World) : Calls Try.prog 13 #[.pointer none, v] w fun e w' => e = .returned (.int .i64 0) ∧ Below w.heap.size w w' := by
  go_enter Try.func13, Try.ntmps13
  go_wp2_with ((go_at_call 28; refine (fine_nil _ _).mono ?_; rintro e w1 ⟨rfl, hb⟩))
  go_ret
  exact ⟨rfl, hb⟩
theorem Equal_nil (a b : Option Addr) (n c1 c2 : Nat) (w : World) : Calls Try.prog 14 #[.pointer none, .slice a n c1, .slice b n c2] w fun e w' => e = .returned (.int .i64 0) ∧ Below w.heap.size w w' := by
  go_enter Try.func14, Try.ntmps14
  go_wp2_with ((go_at_call 28; refine (fine_nil _ _).mono ?_; rintro e w1 ⟨rfl, hb⟩))
  go_ret
  exact ⟨rfl, hb⟩
theorem Must_nil (v : Value) (w : World) : Calls Try.prog 6 #[.pointer none, v] w fun e w' => e = .returned (.tuple #[]) ∧ Below w.heap.size w w' := by
  go_enter Try.func6, Try.ntmps6
  go_wp2_with fail
  refine (fine_nil _ _).mono ?_
  rintro e w1 ⟨rfl, hb⟩
  have HB := Lib.hid hb
  clear hb
  go_wp2
  refine bodyPost_end (v := .tuple #[]) (by first | exact results_none rfl _ _ _ | rfl | kernel_rfl) (by rfl) ?_
  exact ⟨rfl, HB.out⟩
/-! ### literals that may not be -/
section
variable {fp : Nat → Prop} {B : Nat} {w : World} {g f m : Nat} {n : Int} {xss : List (List Int)} {D : DataW Unit}
theorem And_no (h : GAt fp B w g f m n xss D) (a b : Int) (hb : [a, b].any (badG n) = true) : Calls Try.prog 10 #[.pointer (some ⟨g, 0, none⟩), .int .i64 a, .int .i64 b] w fun e w' => e = .returned (.int .i64 0) ∧ Below w.heap.size w w' := by
  have hB := al3 w (.cells #[.int .i64 a] 3) (.cells #[.int .i64 b] 3) (.cells #[.int .i64 a, .int .i64 b] 3)
  have hf := fine_ (h.below hB) (int2 ((w.alloc (.cells #[.int .i64 a] 3)).alloc (.cells #[.int .i64 b] 3)) (w.heap.size + 1 + 1) (by simp) a b)
  rw [hb] at hf
  have HF := Lib.hid hf
  have HB := Lib.hid hB
  clear h hB hf hb
  go_enter Try.func10, Try.ntmps10
  go_wp2_with ((go_at_call 28; refine (HF.out).mono ?_; rintro e w1 ⟨rfl, hb⟩))
  go_ret
  exact ⟨rfl, HB.out.trans (hb.mono HB.out.size)⟩
theorem Xor_no (h : GAt fp B w g f m n xss D) (a b : Int) (hb : [a, b].any (badG n) = true) : Calls Try.prog 11 #[.pointer (some ⟨g, 0, none⟩), .int .i64 a, .int .i64 b] w fun e w' => e = .returned (.int .i64 0) ∧ Below w.heap.size w w' := by
  have hB := al3 w (.cells #[.int .i64 a] 3) (.cells #[.int .i64 b] 3) (.cells #[.int .i64 a, .int .i64 b] 3)
  have hf := fine_ (h.below hB) (int2 ((w.alloc (.cells #[.int .i64 a] 3)).alloc (.cells #[.int .i64 b] 3)) (w.heap.size + 1 + 1) (by simp) a b)
  rw [hb] at hf
  have HF := Lib.hid hf
  have HB := Lib.hid hB
  clear h hB hf hb
  go_enter Try.func11, Try.ntmps11
  go_wp2_with ((go_at_call 28; refine (HF.out).mono ?_; rintro e w1 ⟨rfl, hb⟩))
  go_ret
  exact ⟨rfl, HB.out.trans (hb.mono HB.out.size)⟩
theorem Choose_no (h : GAt fp B w g f m n xss D) (c a b : Int) (hb : [c, a, b].any (badG n) = true) : Calls Try.prog 12 #[.pointer (some ⟨g, 0, none⟩), .int .i64 c, .int .i64 a, .int .i64 b] w fun e w' => e = .returned (.int .i64 0) ∧ Below w.heap.size w w' := by
  have hB := al4 w (.cells #[.int .i64 c] 3) (.cells #[.int .i64 a] 3) (.cells #[.int .i64 b] 3) (.cells #[.int .i64 c, .int .i64 a, .int .i64 b] 3)
  have hf := fine_ (h.below hB) (int3 (((w.alloc (.cells #[.int .i64 c] 3)).alloc (.cells #[.int .i64 a] 3)).alloc (.cells #[.int .i64 b] 3)) (w.heap.size + 1 + 1 + 1) (by simp) c a b)
  rw [hb] at hf
  have HF := Lib.hid hf
  have HB := Lib.hid hB
  clear h hB hf hb
  go_enter Try.func12, Try.ntmps12
  go_wp2_with ((go_at_call 28; refine (HF.out).mono ?_; rintro e w1 ⟨rfl, hb⟩))
  go_ret
  exact ⟨rfl, HB.out.trans (hb.mono HB.out.size)⟩
theorem All_no (h : GAt fp B w g f m n xss D) {v : Value} {l : List Int} (hi : Ints w v l) (hb : l.any (badG n) = true) : Calls Try.prog 13 #[.pointer (some ⟨g, 0, none⟩), v] w fun e w' => e = .returned (.int .i64 0) ∧ Below w.heap.size w w' := by
  have hf := fine_ h hi
  rw [hb] at hf
  have HF := Lib.hid hf
  clear h hf hb hi
  go_enter Try.func13, Try.ntmps13
  go_wp2_with ((go_at_call 28; refine (HF.out).mono ?_; rintro e w1 ⟨rfl, hb⟩))
  go_ret
  exact ⟨rfl, hb⟩
theorem Equal_no (h : GAt fp B w g f m n xss D) {a b : Option Addr} {c1 c2 : Nat} {l : List Int} (hi : Ints w (.slice a l.length c1) l) (hb : l.any (badG n) = true) : Calls Try.prog 14 #[.pointer (some ⟨g, 0, none⟩), .slice a l.length c1, .slice b l.length c2] w fun e w' => e = .returned (.int .i64 0) ∧ Below w.heap.size w w' := by
  have hf := fine_ h hi
  rw [hb] at hf
  have HF := Lib.hid hf
  clear h hf hb hi
  generalize l.length = k at *
  go_enter Try.func14, Try.ntmps14
  go_wp2_with ((go_at_call 28; refine (HF.out).mono ?_; rintro e w1 ⟨rfl, hb⟩))
  go_ret
  exact ⟨rfl, hb⟩
end
/-- Lists that are not of one length. -/
theorem Equal_len (p : Value) (a b : Option Addr) (n1 n2 c1 c2 : Nat) (hn : n1 ≠ n2) (w : World) : Calls Try.prog 14 #[p, .slice a n1 c1, .slice b n2 c2] w fun e w' => e = .returned (.int .i64 0) ∧ w = w' := by
  have d0 : ¬ (n1 : Int) = (n2 : Int) := by omega
  clear hn
  go_enter Try.func14, Try.ntmps14
  go_wp2
  go_ret
  exact ⟨rfl, rfl⟩
end Go.Proofs.Ytkofhilgehhopaa
