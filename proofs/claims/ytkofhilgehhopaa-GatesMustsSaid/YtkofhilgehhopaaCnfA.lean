/-
  Package cnf: New, Grow, Vars, Len, all, walked.
-/
import Derived.Test.YtkofhilgehhopaaIntsS
import Derived.Test.YtkofhilgehhopaaClB0
import Derived.Test.YtkofhilgehhopaaInts
import Derived.Deep.RegionHeld3
import Derived.Deep.DrawnRows
namespace Go.Proofs.Ytkofhilgehhopaa
open Go.ChangeShapes Go.WideShapes Go.ChangeAt Go.RowKit
set_option linter.unusedVariables false
/-- A formula of its own at block f (blocks from B on). -/
def FAt (B : Nat) (w : World) (f : Nat) (vars : Int) (xss : List (List Int)) : Prop :=
  B ≤ f ∧ ∃ vl us, Blk w f 59 #[.int .i64 vars, vl] ∧ Row w 32 1 vl xss.length us ∧ (∀ g, vl.ownBlock = some g → B ≤ g ∧ g ≠ f) ∧ Cls w (fun g => g = f ∨ vl.ownBlock = some g) us xss
/-- The same, with the blocks that it may turn. -/
def FAtF (fp : Nat → Prop) (B : Nat) (w : World) (f : Nat) (vars : Int) (xss : List (List Int)) : Prop :=
  B ≤ f ∧ ∃ vl us, Blk w f 59 #[.int .i64 vars, vl] ∧ Row w 32 1 vl xss.length us ∧ (∀ g, vl.ownBlock = some g → B ≤ g ∧ g ≠ f) ∧ Cls w (fun g => g = f ∨ vl.ownBlock = some g) us xss ∧ (∀ g, (g = f ∨ vl.ownBlock = some g ∨ ∃ j, j < xss.length ∧ (us.getD j undef).ownBlock = some g) → fp g) ∧ ∀ g, fp g → g < w.heap.size
theorem FAtF.toF {fp : Nat → Prop} {B : Nat} {w : World} {f : Nat} {vars : Int} {xss : List (List Int)} (h : FAtF fp B w f vars xss) : FAt B w f vars xss := by
  obtain ⟨h0, vl, us, h1, h2, h3, h4, -, -⟩ := h
  exact ⟨h0, vl, us, h1, h2, h3, h4⟩
theorem FAtF.chg {fp S : Nat → Prop} {B : Nat} {w w' : World} {f : Nat} {vars : Int} {xss : List (List Int)} (h : FAtF fp B w f vars xss) (hc : Chg S w w') (hn : ∀ g, fp g → ¬ S g) : FAtF fp B w' f vars xss := by
  obtain ⟨h0, vl, us, h1, h2, h3, h4, h5, h6⟩ := h
  refine ⟨h0, vl, us, h1.chg hc (hn f (h5 f (.inl rfl))), h2.chg hc (fun g hg => hn g (h5 g (.inr (.inl hg)))), h3, ?_, h5, fun g hg => Nat.lt_of_lt_of_le (h6 g hg) hc.size⟩
  refine ⟨h4.1, fun j hj => ⟨(h4.2 j hj).1.chg hc (fun g hg => hn g (h5 g (.inr (.inr ⟨j, hj, hg⟩)))), fun g hg => ⟨((h4.2 j hj).2 g hg).1, Nat.lt_of_lt_of_le ((h4.2 j hj).2 g hg).2 hc.size⟩⟩⟩
theorem FAtF.below {fp : Nat → Prop} {B : Nat} {w w' : World} {f : Nat} {vars : Int} {xss : List (List Int)} (h : FAtF fp B w f vars xss) (hb : Below w.heap.size w w') : FAtF fp B w' f vars xss := h.chg (S := fun _ => False) (Chg.of_below hb) (fun _ _ h => h)
theorem FAt.below {B : Nat} {w w' : World} {f : Nat} {vars : Int} {xss : List (List Int)} (h : FAt B w f vars xss) (hb : Below w.heap.size w w') : FAt B w' f vars xss := by
  obtain ⟨h0, vl, us, h1, h2, h3, h4⟩ := h
  exact ⟨h0, vl, us, h1.below hb h1.lt, h2.chg (S := fun _ => False) (Chg.of_below hb) (fun _ _ h => h), h3, h4.below hb⟩
theorem FAt.drew {B : Nat} {w : World} {f : Nat} {vars : Int} {xss : List (List Int)} (h : FAt B w f vars xss) : FAt B w.drew f vars xss := h
theorem FAt.read {B : Nat} {w : World} {f : Nat} {vars : Int} {xss : List (List Int)} (h : FAt B w f vars xss) : ∃ vl, w.cell? ⟨f, 0, none⟩ = some (.int .i64 vars) ∧ w.cell? ⟨f, 1, none⟩ = some vl ∧ IntsS w vl xss := by
  obtain ⟨h0, vl, us, h1, h2, h3, h4⟩ := h
  exact ⟨vl, h1.cell 0, h1.cell 1, h2.intsS h4⟩
theorem New_off (n : Int) (h : n < 0 ∨ 65536 < n) (w : World) : Calls Try.prog 30 #[.int .i64 n] w fun e w' => e = .returned (.pointer none) ∧ w = w' := by
  rcases h with h | h
  all_goals
    go_enter Try.func30, Try.ntmps30
    go_wp2
    go_ret
    exact ⟨rfl, rfl⟩
theorem New_on (n : Int) (h0 : 0 ≤ n) (h1 : n ≤ 65536) (w : World) : Calls Try.prog 30 #[.int .i64 n] w fun e w' => ∃ f, e = .returned (.pointer (some ⟨f, 0, none⟩)) ∧ FAt w.heap.size w' f n [] ∧ Below w.heap.size w w' := by
  go_enter Try.func30, Try.ntmps30
  go_wp2
  go_ret
  refine ⟨w.heap.size, rfl, ⟨Nat.le_refl _, .slice none 0 0, [], Blk.new w 59 _, World.ownsRow_nil _ _ _ _, fun g hg => by simp [Value.ownBlock] at hg, Cls.nil _ _⟩, (Below.refl _ _).alloc (Nat.le_refl _) _⟩
theorem Grow_nil (n : Int) (w : World) : Calls Try.prog 45 #[.pointer none, .int .i64 n] w fun e w' => e = .returned (.int .i64 1) ∧ w = w' := by
  go_enter Try.func45, Try.ntmps45
  go_wp2
  go_ret
  exact ⟨rfl, rfl⟩
theorem Vars_nil (w : World) : Calls Try.prog 9 #[.pointer none] w fun e w' => e = .returned (.int .i64 0) ∧ w = w' := by
  go_enter Try.func9, Try.ntmps9
  go_wp2
  go_ret
  exact ⟨rfl, rfl⟩
theorem Vars_ {B : Nat} {w : World} {f : Nat} {vars : Int} {xss : List (List Int)} (h : FAt B w f vars xss) : Calls Try.prog 9 #[.pointer (some ⟨f, 0, none⟩)] w fun e w' => e = .returned (.int .i64 vars) ∧ w = w' := by
  obtain ⟨vl, c0, c1, -⟩ := h.read
  clear h c1
  go_enter Try.func9, Try.ntmps9
  go_wp2
  go_ret
  exact ⟨rfl, rfl⟩
theorem all_nil (w : World) : Calls Try.prog 59 #[.pointer none] w fun e w' => e = .returned (.slice none 0 0) ∧ w = w' := by
  go_enter Try.func59, Try.ntmps59
  go_wp2
  go_ret
  exact ⟨rfl, rfl⟩
theorem all_ {w : World} {f : Nat} {vl : Value} (c1 : w.cell? ⟨f, 1, none⟩ = some vl) : Calls Try.prog 59 #[.pointer (some ⟨f, 0, none⟩)] w fun e w' => e = .returned vl ∧ w = w' := by
  go_enter Try.func59, Try.ntmps59
  go_wp2
  go_ret
  exact ⟨rfl, rfl⟩
theorem Len_nil (w : World) : Calls Try.prog 50 #[.pointer none] w fun e w' => e = .returned (.int .i64 0) ∧ w = w' := by
  go_enter Try.func50, Try.ntmps50
  go_wp2_with ((go_at_call 59; refine (all_nil _).mono ?_; rintro e w' ⟨rfl, rfl⟩))
  go_ret
  exact ⟨rfl, rfl⟩
theorem Len_ {B : Nat} {w : World} {f : Nat} {vars : Int} {xss : List (List Int)} (h : FAt B w f vars xss) : Calls Try.prog 50 #[.pointer (some ⟨f, 0, none⟩)] w fun e w' => e = .returned (.int .i64 xss.length) ∧ w = w' := by
  obtain ⟨vl, c0, c1, h2⟩ := h.read
  obtain ⟨a, cap, rfl, -, -⟩ := h2.form
  have HA := Lib.hid (all_ c1)
  obtain ⟨n, hn⟩ : ∃ n, n = xss.length := ⟨_, rfl⟩
  rw [← hn] at HA ⊢
  clear h c0 c1 h2 hn
  go_enter Try.func50, Try.ntmps50
  go_wp2_with ((go_at_call 59; refine (HA.out).mono ?_; rintro e w' ⟨rfl, rfl⟩))
  go_ret
  exact ⟨rfl, rfl⟩
end Go.Proofs.Ytkofhilgehhopaa
/-
  Package cnf: Grow and Add, walked; clause.Right and the reference's.
-/
namespace Go.Proofs.Ytkofhilgehhopaa
open Go.ChangeShapes Go.WideShapes Go.ChangeAt Go.RowKit
set_option linter.unusedVariables false
theorem max_eq (a b : Int) : max a b = if a ≤ b then b else a := rfl
/-- What a formula's call leaves: nothing older has turned. -/
def FPost (B : Nat) (w : World) (f : Nat) (vars : Int) (xss : List (List Int)) (w' : World) : Prop := FAt B w' f vars xss ∧ Below B w w'
/-- The same, with the blocks that may have turned. -/
def FPostF (fp : Nat → Prop) (B : Nat) (w : World) (f : Nat) (vars : Int) (xss : List (List Int)) (w' : World) : Prop :=
  ∃ fp', FAtF fp' B w' f vars xss ∧ Chg fp w w' ∧ (∀ g, fp' g → fp g ∨ w.heap.size ≤ g) ∧ Below B w w'
theorem Grow_big {B : Nat} {w : World} {f : Nat} {vars : Int} {xss : List (List Int)} (h : FAt B w f vars xss) (n : Int) (hn : 65536 < n) :
    Calls Try.prog 45 #[.pointer (some ⟨f, 0, none⟩), .int .i64 n] w fun e w' => e = .returned (.int .i64 10) ∧ w = w' := by
  clear h
  go_enter Try.func45, Try.ntmps45
  go_wp2
  go_ret
  exact ⟨rfl, rfl⟩
theorem FAtF.grow {fp : Nat → Prop} {B : Nat} {w : World} {f : Nat} {vars : Int} {xss : List (List Int)} (h : FAtF fp B w f vars xss) (m : Int) : FPostF fp B w f m xss (w.setCell ⟨f, 0, none⟩ (.int .i64 m)) := by
  obtain ⟨h0, vl, us, h1, h2, h3, h4, h5, h6⟩ := h
  have hc : Chg (fun k => k = f) w (w.setCell ⟨f, 0, none⟩ (.int .i64 m)) := (Chg.refl (fun k => k = f) w).setCell (p := ⟨f, 0, none⟩) (.inl rfl) _
  refine ⟨fp, ⟨h0, vl, us, ?_, h2.chg hc (fun g hg e => (h3 g hg).2 e), h3, ?_, h5, fun g hg => Nat.lt_of_lt_of_le (h6 g hg) hc.size⟩, hc.mono (fun g e => h5 g (.inl e)), fun g hg => .inl hg, (Below.refl B w).setCell (p := ⟨f, 0, none⟩) h0 _⟩
  · exact h1.set_ 0 _
  · exact h4.chg hc (fun g _ e => .inl e)
theorem Grow_ {fp : Nat → Prop} {B : Nat} {w : World} {f : Nat} {vars : Int} {xss : List (List Int)} (h : FAtF fp B w f vars xss) (n : Int) (hn : n ≤ 65536) :
    Calls Try.prog 45 #[.pointer (some ⟨f, 0, none⟩), .int .i64 n] w fun e w' => e = .returned (.int .i64 0) ∧ FPostF fp B w f (max vars n) xss w' := by
  have HG := Lib.hid (h.grow (max vars n))
  obtain ⟨vl, c0, c1, -⟩ := h.toF.read
  have f0 : w.frozen? ⟨f, 0, none⟩ = false := by obtain ⟨-, vl, us, h1, -⟩ := h; exact h1.frozen 0
  clear h c1
  go_enter Try.func45, Try.ntmps45
  go_wp2
  go_ret
  exact ⟨rfl, HG.out⟩
/-! ### Right -/
def rightB (c : List Int) (vars : Int) : Bool := c.all fun l => decide (l ≠ 0 ∧ 0 ≤ vars ∧ -vars ≤ l ∧ l ≤ vars)
def badB (vars l : Int) : Bool := !decide (l ≠ 0 ∧ 0 ≤ vars ∧ -vars ≤ l ∧ l ≤ vars)
theorem cl_Right1 {w : World} {bx : Nat} {vars : Int} (hbox : w.cell? ⟨bx, 0, none⟩ = some (.int .i64 vars)) (h0 : 0 ≤ vars) (h1 : vars ≤ 65536) (l : Int) :
    Calls Try.prog 74 #[.int .i64 l, .pointer (some ⟨bx, 0, none⟩)] w fun e w' => e = .returned (.bool (badB vars l)) ∧ w = w' := by
  by_cases hb : l ≠ 0 ∧ 0 ≤ vars ∧ -vars ≤ l ∧ l ≤ vars
  · have e : badB vars l = false := by unfold badB; rw [decide_eq_true hb]; rfl
    rw [e]
    obtain ⟨g0, -, g2, g3⟩ := hb
    have b0 : (l == 0) = false := by rw [beq_eq_false_iff_ne]; exact g0
    have b1 : decide (vars < 0) = false := decide_eq_false (by omega)
    have b2 : decide (vars < l) = false := decide_eq_false (by omega)
    have b3 : decide (l < -vars) = false := decide_eq_false (by omega)
    clear g0 e
    go_enter Try.func74, Try.ntmps74
    go_wp2
    go_ret
    exact ⟨rfl, rfl⟩
  · have e : badB vars l = true := by unfold badB; rw [decide_eq_false hb]; rfl
    rw [e]
    have hb2 : l = 0 ∨ (l ≠ 0 ∧ vars < l) ∨ (l ≠ 0 ∧ l ≤ vars ∧ l < -vars) := by omega
    clear e hb
    rcases hb2 with rfl | ⟨g0, g1⟩ | ⟨g0, g2, g1⟩
    · go_enter Try.func74, Try.ntmps74
      go_wp2
      go_ret
      exact ⟨rfl, rfl⟩
    · have b0 : (l == 0) = false := by rw [beq_eq_false_iff_ne]; exact g0
      have b1 : decide (vars < 0) = false := decide_eq_false (by omega)
      have b2 : decide (vars < l) = true := decide_eq_true g1
      clear g0
      go_enter Try.func74, Try.ntmps74
      go_wp2
      go_ret
      exact ⟨rfl, rfl⟩
    · have b1 : decide (vars < 0) = false := decide_eq_false (by omega)
      have b2 : decide (vars < l) = false := decide_eq_false (by omega)
      have b3 : decide (l < -vars) = true := decide_eq_true g1
      have b0 : (l == 0) = false := by rw [beq_eq_false_iff_ne]; exact g0
      clear g0
      go_enter Try.func74, Try.ntmps74
      go_wp2
      go_ret
      exact ⟨rfl, rfl⟩
theorem rightB_any (c : List Int) (vars : Int) : rightB c vars = !c.any (badB vars) := by
  unfold rightB badB
  rw [List.all_eq_not_any_not]
def encI (x : Int) : Value := .int .i64 x
theorem cfun_right {w : World} {bx b off cap : Nat} {vars : Int} {l : List Int} (h0 : 0 ≤ vars) (h1 : vars ≤ 65536) (hl : l.length ≤ 9223372036854775807) (hbox : ∀ W, Below w.heap.size w W → W.cell? ⟨bx, 0, none⟩ = some (.int .i64 vars))
    (hc : ∀ j, j < l.length → w.cell? ⟨b, off + j, none⟩ = some (.int .i64 (l.getD j 0))) :
    Calls Try.prog 42 #[.slice (some ⟨b, off, none⟩) l.length cap, .func (.func 74) #[] #[.pointer (some ⟨bx, 0, none⟩)]] w fun e w' => e = .returned (.bool (l.any (badB vars))) ∧ Quiet w w' := by
  have eg : ∀ args w, (callFunc 74 args).run Try.prog w = .ok (.enter 74 args) w := enters_of Try.func74 (by kernel_rfl) rfl
  have hp : PredAt Try.prog 74 #[.pointer (some ⟨bx, 0, none⟩)] encI (badB vars) w := fun W x hW =>
    (cl_Right1 (hbox W hW) h0 h1 x).mono fun e w' ⟨h1, h2⟩ => ⟨h1, 0, h2.symm⟩
  have h := AnyE.slices_ContainsFunc Try.hasF encI (badB vars) 74 #[.pointer (some ⟨bx, 0, none⟩)] eg b off l.length cap l w hp (Nat.le_refl _) hl (fun j hj => by
    rw [hc j hj]
    simp [encI, List.getD, hj])
  refine h.mono fun e w' ⟨h1, h2⟩ => ⟨?_, h2⟩
  rw [h1, List.take_length]
set_option maxHeartbeats 1000000 in
theorem cl_Right {w : World} {u : Value} {l : List Int} (hi : Ints w u l) (vars : Int) (h0 : 0 ≤ vars) (h1 : vars ≤ 65536) :
    Calls Try.prog 61 #[u, .int .i64 vars] w fun e w' => e = .returned (.bool (rightB l vars)) ∧ Below w.heap.size w w' := by
  rw [rightB_any]
  obtain ⟨a, cap, rfl, -, k1, k2, k3⟩ := hi
  rcases k3 with rfl | ⟨b, off, rfl, hc⟩
  · clear h0 h1 k1 k2
    go_enter Try.func61, Try.ntmps61
    go_wp2_with ((go_at_call 42; refine (cfun_none _ _ _ _).mono ?_; rintro e w' ⟨rfl, rfl⟩))
    go_ret
    exact ⟨rfl, (Below.refl _ _).alloc (Nat.le_refl _) _⟩
  · have hB1 : Below w.heap.size w (w.alloc (.cells #[.int .i64 vars] 3)) := (Below.refl _ _).alloc (Nat.le_refl _) _
    have hcc := cfun_right (w := w.alloc (.cells #[.int .i64 vars] 3)) (bx := w.heap.size) (b := b) (off := off) (cap := cap) (l := l) h0 h1 (Nat.le_trans k1 k2)
      (fun W hW => by
        have h0 : (w.alloc (.cells #[.int .i64 vars] 3)).cell? ⟨w.heap.size, 0, none⟩ = some (.int .i64 vars) := (Blk.new w 3 #[.int .i64 vars]).cell 0
        exact (hW.cell (p := ⟨w.heap.size, 0, none⟩) (by simp)).trans h0) (fun j hj => by
        have := hc j hj
        exact (hB1.cell (p := ⟨b, off + j, none⟩) (World.block_lt_of_cell? w _ this)).trans this)
    have HC := Lib.hid hcc
    have HB := Lib.hid hB1
    obtain ⟨n, hn⟩ : ∃ n, n = l.length := ⟨_, rfl⟩
    rw [← hn] at HC ⊢
    clear hcc hB1 hc h0 h1 k1 k2 hn
    go_enter Try.func61, Try.ntmps61
    go_wp2_with ((go_at_call 42; refine (HC.out).mono ?_; rintro e w' ⟨rfl, hq⟩))
    go_ret
    exact ⟨rfl, HB.out.trans (hq.below.mono HB.out.size)⟩
theorem all_no0 {l : List Int} {p : Int → Bool} {k : Nat} (hk : k < l.length) (h : p (l.getD k 0) = false) : l.all p = false := by
  rw [List.all_eq_false]
  exact ⟨_, List.getElem_mem hk, by simpa [List.getD, hk] using h⟩
theorem all_yes0 {l : List Int} {p : Int → Bool} {n : Nat} (hn : n = l.length) (h : ∀ j, j < n → p (l.getD j 0) = true) : l.all p = true := by
  rw [List.all_eq_true]
  intro x hx
  obtain ⟨j, hj, rfl⟩ := List.getElem_of_mem hx
  have := h j (by omega)
  simpa [List.getD, hj] using this
end Go.Proofs.Ytkofhilgehhopaa
