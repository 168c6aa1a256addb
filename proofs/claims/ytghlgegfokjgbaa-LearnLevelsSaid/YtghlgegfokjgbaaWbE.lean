/-
  Chapter 22: copied, the copy's Lits, Follows; walked.
-/
import Derived.Test.YtghlgegfokjgbaaWbC
namespace Go.Proofs.Ytghlgegfokjgbaa
open Go.ChangeShapes Go.WideShapes Go.ChangeAt Go.RowKit
set_option linter.unusedVariables false
set_option linter.unusedSimpArgs false
attribute [local go_sem ↓] Go.wp_at_zero Go.wp_at_succ
abbrev It := Int × Int × Int
def itC (x : It) : List Value := [.int .i64 x.1, .int .i64 x.2.1, .int .i64 x.2.2]
theorem itC_len (l : List It) : (l.flatMap itC).length = 3 * l.length := by
  induction l with
  | nil => rfl
  | cons x l ih => rw [List.flatMap_cons, List.length_append, ih, List.length_cons]; simp [itC]; omega
theorem infoIT : (Try.prog.info? 53).map (fun i => (i.zero, i.size, i.bytes)) = some (some (.agg #[.int .i64 0, .int .i64 0, .int .i64 0]), 3, 24) := by kernel_rfl
/-- A copy of a trail: block cb. -/
structure Cop (w : World) (cb : Nat) (a c : Value) (vL : Value) (its : List It) : Prop where
  b : Blk w cb 49 #[a, vL, c]
  l : Row w 53 3 vL its.length (its.flatMap itC)
  ne : ∀ g, vL.ownBlock = some g → g ≠ cb
theorem Cop.below {w w' : World} {cb : Nat} {a c vL : Value} {its : List It} (h : Cop w cb a c vL its) (hb : Below w.heap.size w w') : Cop w' cb a c vL its :=
  ⟨h.b.below hb h.b.lt, h.l.chg (S := fun _ => False) (Chg.of_below hb) (fun _ _ h => h), h.ne⟩
theorem Row.formI {w : World} {v : Value} {its : List It} (h : Row w 53 3 v its.length (its.flatMap itC)) : ∃ a c, v = .slice a its.length c ∧ its.length ≤ c ∧ c ≤ maxLen := by
  rcases h.form with ⟨rfl, e0, -⟩ | ⟨g, cap, rfl, h1, h2, -⟩
  · exact ⟨_, _, by rw [e0], by omega, by simp⟩
  · exact ⟨_, _, rfl, h1, h2⟩
theorem flat_at (its : List It) (k : Nat) (hk : k < its.length) : ∀ i, i < 3 → (its.flatMap itC).getD (k * 3 + i) undef = (itC (its.getD k (0, 0, 0))).getD i undef := by
  induction its generalizing k with
  | nil => simp at hk
  | cons x its ih =>
    intro i hi
    rw [List.flatMap_cons]
    cases k with
    | zero =>
      have : 0 * 3 + i < (itC x).length := by simp [itC]; omega
      simp only [List.getD]
      rw [List.getElem?_append_left this]
      simp
    | succ k =>
      have h3 : (itC x).length = 3 := rfl
      have := ih k (by simpa using hk) i hi
      simp only [List.getD] at this ⊢
      rw [List.getElem?_append_right (by omega), h3, show (k + 1) * 3 + i - 3 = k * 3 + i by omega, this]
      simp
theorem Cop.at_ {w : World} {cb : Nat} {a c vL : Value} {its : List It} (h : Cop w cb a c vL its) {k : Nat} (hk : k < its.length) :
    ∃ g cap, vL = .slice (some ⟨g, 0, none⟩) its.length cap ∧ w.cell? ⟨g, k * 3, none⟩ = some (.int .i64 (its.getD k (0, 0, 0)).1) ∧ w.cell? ⟨g, k * 3 + 1, none⟩ = some (.int .i64 (its.getD k (0, 0, 0)).2.1) ∧ w.cell? ⟨g, k * 3 + 2, none⟩ = some (.int .i64 (its.getD k (0, 0, 0)).2.2) ∧ its.length ≤ cap := by
  rcases h.l.form with ⟨-, e0, -⟩ | ⟨g, cap, e, h1, h2, -, hx⟩
  · omega
  · have hl := itC_len its
    refine ⟨g, cap, e, ?_, ?_, ?_, h1⟩
    · have := (hx (k * 3) (by omega)).1; have e2 := flat_at its k hk 0 (by omega); rw [Nat.add_zero] at e2; rw [this, e2]; rfl
    · have := (hx (k * 3 + 1) (by omega)).1; rw [this, flat_at its k hk 1 (by omega)]; rfl
    · have := (hx (k * 3 + 2) (by omega)).1; rw [this, flat_at its k hk 2 (by omega)]; rfl
/-- What a trail's copy has. -/
def itemsOf (t : TS) : List It := t.l.map fun x => (x, t.level (absI x), t.reason (absI x))
theorem LW.level {B : Nat} {w0 w : World} {r : Nat → Nat} {wb t : Nat} {S : WS} (h : LW B w0 w r wb t S) (v : Int) : Calls Try.prog 18 #[.pointer (some ⟨t, 0, none⟩), .int .i64 v] w fun e w' => e = .returned (.int .i64 (S.t.level v)) ∧ Below w.heap.size w w' := by
  obtain ⟨vl, vs, vd, us, xs, hV⟩ := h.at_
  obtain ⟨fp, hT, hfp⟩ := hV.tr
  exact trail_Level hT v
theorem LW.reason {B : Nat} {w0 w : World} {r : Nat → Nat} {wb t : Nat} {S : WS} (h : LW B w0 w r wb t S) (v : Int) : Calls Try.prog 24 #[.pointer (some ⟨t, 0, none⟩), .int .i64 v] w fun e w' => e = .returned (.int .i64 (S.t.reason v)) ∧ Below w.heap.size w w' := by
  obtain ⟨vl, vs, vd, us, xs, hV⟩ := h.at_
  obtain ⟨fp, hT, hfp⟩ := hV.tr
  exact trail_Reason hT v
theorem cop_cells {w w1 : World} {cb : Nat} {a c vL v' : Value} {its : List It} {n : Nat} {xs : List Value} (h : Cop w cb a c vL its) (hp : AppPost w 53 3 vL n xs v' w1) : w1.cell? ⟨cb, 1, none⟩ = some vL ∧ w1.frozen? ⟨cb, 1, none⟩ = false ∧ cb < w1.heap.size := by
  have hb := h.b.chg hp.2.1 (fun e => h.ne cb e rfl)
  exact ⟨hb.cell 1, hb.frozen 1, hb.lt⟩
theorem lit9.small {x : Int} (h : lit9 x) : Go.Proofs.Ytghlgegfokjgbaa.small x := by unfold lit9 at h; unfold Go.Proofs.Ytghlgegfokjgbaa.small; omega
/-- Between two items. -/
def CopR (wL : World) (cb : Nat) (a c : Value) (its : List It) (wr : World) : Prop :=
  ∃ vL, Cop wr cb a c vL its ∧ (∀ g, vL.ownBlock = some g → wL.heap.size ≤ g) ∧ Chg (fun b => b = cb) wL wr
theorem cop_step {wL wr W wB : World} {cb k : Nat} {a c vL v' : Value} {its : List It} {x : It} (h : Cop wr cb a c vL its) (hg : ∀ g, vL.ownBlock = some g → wL.heap.size ≤ g) (hc : Chg (fun b => b = cb) wL wr) (hW : Below wr.heap.size wr W)
    (hk : k = its.length) (hp : AppPost (W.alloc (.cells #[.int .i64 x.1, .int .i64 x.2.1, .int .i64 x.2.2] 53)) 53 3 vL (k + 1) (its.flatMap itC ++ itC x) v' wB) : CopR wL cb a c (its ++ [x]) (wB.setCell ⟨cb, 1, none⟩ v') := by
  have hA : Below wr.heap.size wr (W.alloc (.cells #[.int .i64 x.1, .int .i64 x.2.1, .int .i64 x.2.2] 53)) := hW.alloc hW.size _
  have hca := h.below hA
  obtain ⟨p1, p2, p3⟩ := hp
  have hb := hca.b.chg p2 (fun e => hca.ne cb e rfl)
  have hcl : cb < wr.heap.size := h.b.lt
  have hsz := hc.size
  have hWs := hW.size
  have own : ∀ g, v'.ownBlock = some g → wL.heap.size ≤ g ∧ g ≠ cb := fun g hg' => by
    rcases p3 with e | e
    · rw [e] at hg'; exact ⟨hg g hg', h.ne g hg'⟩
    · rw [e] at hg'; injection hg' with hg'; simp at hg'; omega
  refine ⟨v', ⟨?_, ?_, fun g hg' => (own g hg').2⟩, fun g hg' => (own g hg').1, ?_⟩
  · have := hb.set_ 1 v'
    simpa using this
  · have e : (its ++ [x]).length = k + 1 := by rw [List.length_append, hk]; rfl
    have e2 : (its ++ [x]).flatMap itC = its.flatMap itC ++ itC x := by simp
    rw [e, e2]
    exact p1.chg (S := fun b => b = cb) ((Chg.refl (fun b => b = cb) wB).setCell (p := ⟨cb, 1, none⟩) (.inl rfl) _) (fun g hg' e => (own g hg').2 e)
  · have h1 := hc.trans (Chg.of_below (S := fun _ => False) hA) (fun i hi => hi.elim)
    have h2 : Chg (fun b => b = cb) wL wB := h1.trans p2 (fun i hi => .inr (hg i hi))
    exact h2.setCell (.inl rfl) _
/-- What copied leaves. -/
def CopiedQ (w : World) (t : TS) (e : Ending) (w' : World) : Prop := ∃ cb a c vL, e = .returned (.pointer (some ⟨cb, 0, none⟩)) ∧ Cop w' cb a c vL (itemsOf t) ∧ Below w.heap.size w w'
end Go.Proofs.Ytghlgegfokjgbaa
/-
  Chapter 22: the copy's Lits, Follows; walked.
-/
namespace Go.Proofs.Ytghlgegfokjgbaa
open Go.ChangeShapes Go.WideShapes Go.ChangeAt Go.RowKit
set_option linter.unusedVariables false
set_option linter.unusedSimpArgs false
attribute [local go_sem ↓] Go.wp_at_zero Go.wp_at_succ
/-- The slice v reads as items. -/
def Its (w : World) (v : Value) (its : List It) : Prop :=
  ∃ a cap, v = .slice a its.length cap ∧ its.length ≤ cap ∧ cap ≤ maxLen ∧ (its = [] ∨ ∃ g, a = some ⟨g, 0, none⟩ ∧ ∀ k, k < its.length →
    w.cell? ⟨g, k * 3, none⟩ = some (.int .i64 (its.getD k (0, 0, 0)).1) ∧ w.cell? ⟨g, k * 3 + 1, none⟩ = some (.int .i64 (its.getD k (0, 0, 0)).2.1) ∧ w.cell? ⟨g, k * 3 + 2, none⟩ = some (.int .i64 (its.getD k (0, 0, 0)).2.2))
theorem Cop.its {w : World} {cb : Nat} {a c vL : Value} {its : List It} (h : Cop w cb a c vL its) : Its w vL its := by
  obtain ⟨A, cap, e, h1, h2⟩ := h.l.formI
  refine ⟨A, cap, e, h1, h2, ?_⟩
  by_cases hn : its = []
  · exact .inl hn
  · have h0 := List.length_pos_iff.2 hn
    obtain ⟨g, cap', e', -⟩ := h.at_ h0
    rw [e] at e'
    injection e' with e1 e2 e3
    refine .inr ⟨g, e1, fun k hk => ?_⟩
    obtain ⟨g', cap'', e'', q1, q2, q3, -⟩ := h.at_ hk
    rw [e] at e''
    injection e'' with f1 f2 f3
    rw [e1] at f1
    injection f1 with f1
    injection f1 with f1
    subst f1
    exact ⟨q1, q2, q3⟩
theorem Its.below {w w' : World} {v : Value} {its : List It} (h : Its w v its) (hb : Below w.heap.size w w') : Its w' v its := by
  obtain ⟨a, cap, rfl, h1, h2, h3⟩ := h
  refine ⟨a, cap, rfl, h1, h2, ?_⟩
  rcases h3 with h3 | ⟨g, rfl, hc⟩
  · exact .inl h3
  · refine .inr ⟨g, rfl, fun k hk => ?_⟩
    obtain ⟨q1, q2, q3⟩ := hc k hk
    have hlt := World.block_lt_of_cell? w _ q1
    exact ⟨(hb.cell (p := ⟨g, k * 3, none⟩) hlt).trans q1, (hb.cell (p := ⟨g, k * 3 + 1, none⟩) hlt).trans q2, (hb.cell (p := ⟨g, k * 3 + 2, none⟩) hlt).trans q3⟩
theorem Its.take {w : World} {a : Option Addr} {n cap : Nat} {its : List It} (h : Its w (.slice a n cap) its) {k : Nat} (hk : k ≤ n) : Its w (.slice a k cap) (its.take k) := by
  obtain ⟨a', cap', e, h1, h2, h3⟩ := h
  injection e with e1 e2 e3
  subst e1 e2 e3
  have hl : (its.take k).length = k := by rw [List.length_take]; omega
  refine ⟨a, cap, by rw [hl], by omega, h2, ?_⟩
  by_cases h0 : k = 0
  · left; rw [h0]; rfl
  · have hne : its ≠ [] := fun e => by rw [e] at hk; simp at hk; omega
    obtain ⟨g, rfl, hc⟩ := h3.resolve_left hne
    refine .inr ⟨g, rfl, fun j hj => ?_⟩
    rw [hl] at hj
    have e : (its.take k).getD j (0, 0, 0) = its.getD j (0, 0, 0) := by simp [List.getD, List.getElem?_take_of_lt hj]
    rw [e]
    exact hc j (by omega)
theorem Its.at_ {w : World} {v : Value} {its : List It} (h : Its w v its) {k : Nat} (hk : k < its.length) : ∃ g cap, v = .slice (some ⟨g, 0, none⟩) its.length cap ∧ ∀ W, Below w.heap.size w W →
    W.cell? ⟨g, k * 3, none⟩ = some (.int .i64 (its.getD k (0, 0, 0)).1) ∧ W.cell? ⟨g, k * 3 + 2, none⟩ = some (.int .i64 (its.getD k (0, 0, 0)).2.2) := by
  obtain ⟨a, cap, rfl, h1, h2, h3⟩ := h
  have hne : its ≠ [] := fun e => by rw [e] at hk; simp at hk
  obtain ⟨g, rfl, hc⟩ := h3.resolve_left hne
  refine ⟨g, cap, rfl, fun W hW => ?_⟩
  obtain ⟨q1, q2, q3⟩ := hc k hk
  have hlt := World.block_lt_of_cell? w _ q1
  exact ⟨(hW.cell (p := ⟨g, k * 3, none⟩) hlt).trans q1, (hW.cell (p := ⟨g, k * 3 + 2, none⟩) hlt).trans q3⟩
def FolOk (og : List (List Int)) (its : List It) : Prop := ∀ i, i < its.length → (its.getD i (0, 0, 0)).2.2 < 0 ∨ ∃ k : Nat, (its.getD i (0, 0, 0)).2.2 = (k : Int) ∧ k < og.length ∧ telR (og.getD k []) ((its.take i).map (·.1)) = (its.getD i (0, 0, 0)).1
end Go.Proofs.Ytghlgegfokjgbaa
/-
  Chapter 22: right, locked; walked.
-/
namespace Go.Proofs.Ytghlgegfokjgbaa
open Go.ChangeShapes Go.WideShapes Go.ChangeAt Go.RowKit
set_option linter.unusedVariables false
set_option linter.unusedSimpArgs false
attribute [local go_sem ↓] Go.wp_at_zero Go.wp_at_succ
/-- What a Run's answer must be. -/
structure RiOk (lc : List (List Int)) (lits : List Int) (id : Int) (fine : Bool) : Prop where
  li : ∀ k, k < lc.length → Lit9s (lc.getD k [])
  no : fine = false → ∃ k : Nat, id = (k : Int) ∧ k < lc.length ∧ lc.getD k [] ≠ [] ∧ falR (lc.getD k []) lits = true
  yes : fine = true → id = -1 ∧ ∀ k, k < lc.length → lc.getD k [] ≠ [] → falR (lc.getD k []) lits = false ∧ telR (lc.getD k []) lits = 0
/-- Some answer. -/
def SomeB (w : World) (e : Ending) (w' : World) : Prop := ∃ b, e = .returned (.bool b) ∧ Below w.heap.size w w'
theorem LW.reason2 {B : Nat} {w0 w : World} {r : Nat → Nat} {wb t : Nat} {S : WS} (h : LW B w0 w r wb t S) (v : Int) : Calls Try.prog 24 #[.pointer (some ⟨t, 0, none⟩), .int .i64 v] w fun e w' => e = .returned (.int .i64 (S.t.reason v)) ∧ Below w.heap.size w w' := by
  obtain ⟨vl, vs, vd, us, xs, hV⟩ := h.at_
  obtain ⟨fp, hT, hfp⟩ := hV.tr
  exact trail_Reason hT v
end Go.Proofs.Ytghlgegfokjgbaa
/-
  Chapter 22, PLAIN and small steps: what WatchRuns keeps between two acts.
-/
namespace Go.Proofs.Ytghlgegfokjgbaa
open Go.ChangeShapes Go.WideShapes Go.ChangeAt Go.RowKit
set_option linter.unusedVariables false
set_option linter.unusedSimpArgs false
attribute [local go_sem ↓] Go.wp_at_zero Go.wp_at_succ
abbrev Any1 : Int → Prop := fun _ => True
/-- Behind a Run. -/
def HMode (og lc : List (List Int)) (k : Nat) (id : Int) (fine : Bool) (S : WS) : Prop :=
  (0 ≤ S.bk ∧ fine = false ∧ id = S.bk ∧ AInv og 0 S ∧ lc = og) ∨ (S.bk < 0 ∧ EInv og lc Any1 (9 * k) id fine S)
/-- Ahead of a Run. -/
def MMode (og lc : List (List Int)) (k : Nat) (S : WS) : Prop :=
  (0 ≤ S.bk ∧ AInv og 0 S ∧ lc = og) ∨ (S.bk < 0 ∧ Pre og lc Any1 (9 * (k + 1)) S)
theorem HMode.ti {og lc : List (List Int)} {k : Nat} {id : Int} {fine : Bool} {S : WS} (h : HMode og lc k id fine S) : TI S.t := by
  rcases h with ⟨-, -, -, h, -⟩ | ⟨-, h⟩
  · exact h.inv.1.ti
  · exact h.inv.1.ti
theorem HMode.stay {og lc : List (List Int)} {k : Nat} {id : Int} {fine : Bool} {S : WS} (h : HMode og lc k id fine S) (hk : k ≤ 100) : MMode og lc k S := by
  rcases h with ⟨h1, h2, -, h3, h4⟩ | ⟨h1, h2⟩
  · exact .inl ⟨h1, h3, h4⟩
  · exact .inr ⟨h1, (h2.inv.mono (fun _ h => h) (by omega) (by omega)).pre⟩
theorem HMode.fine {og lc : List (List Int)} {k : Nat} {id : Int} {S : WS} (h : HMode og lc k id true S) : S.bk < 0 ∧ EInv og lc Any1 (9 * k) id true S := by
  rcases h with ⟨-, h, -⟩ | h
  · cases h
  · exact h
theorem HMode.decide {og lc : List (List Int)} {k : Nat} {id : Int} {S : WS} (h : HMode og lc k id true S) (hk : k ≤ 100) {x : Int} (hx : lit9 x) (hf : S.t.isFree x = true) : MMode og lc k { S with t := S.t.up.put x (-1) } := by
  obtain ⟨h1, h2⟩ := h.fine
  have hv := (free9 h2.inv.1.ti.ms hx).1 hf
  exact .inr ⟨h1, ((h2.inv.decide (h2.yes rfl).2 hx hv (D' := Any1) (fun _ h => h) trivial).mono (fun _ h => h) (by omega) (by omega)).pre⟩
theorem HMode.back {og lc : List (List Int)} {k : Nat} {id : Int} {fine : Bool} {S : WS} (h : HMode og lc k id fine S) (hk : k ≤ 100) (level : Nat) : MMode og lc k { S with t := S.t.back level } := by
  rcases h with ⟨h1, h2, -, h3, h4⟩ | ⟨h1, h2⟩
  · rw [back_same (by rw [h3.lv]; simp)]; exact .inl ⟨h1, h3, h4⟩
  · have := h2.inv.back level (by omega)
    exact .inr ⟨h1, this⟩
theorem lo_li {og lc : List (List Int)} {D : Int → Prop} {N : Nat} {S : WS} (h : Inv0 og lc D N S) {k : Nat} (hk : k < og.length) : Lit9s (lc.getD k []) := by
  rcases h.lo k hk with e | e
  · rw [e]; intro x hx; simp at hx
  · rw [e]; exact (h.og9 k hk).li
/-- What a Run answers is right. -/
theorem HMode.ri {og lc : List (List Int)} {k : Nat} {id : Int} {fine : Bool} {S : WS} (h : HMode og lc k id fine S) (hlc : lc.length = og.length) : RiOk lc S.t.l id fine := by
  rcases h with ⟨h1, rfl, rfl, h3, rfl⟩ | ⟨h1, h2⟩
  · refine ⟨fun j hj => lo_li h3.inv.1 hj, fun _ => ?_, fun h => by cases h⟩
    obtain ⟨j, q1, q2, q3⟩ := h3.br h1
    exact ⟨j, q1, q2, (h3.inv.1.og9 j q2).ne, fal_iff.2 fun y hy => ⟨fun hm => h3.inv.1.ti.cons hm (q3 y hy), q3 y hy⟩⟩
  · refine ⟨fun j hj => lo_li h2.inv.1 (by omega), fun hf => ?_, fun hf => ⟨(h2.yes hf).1, fun j hj hne => h2.inv.closed h1 (h2.yes hf).2 hj hne hlc⟩⟩
    obtain ⟨j, q1, q2, q3, q4⟩ := h2.no hf
    exact ⟨j, q1, by omega, q3, fal_iff.2 fun y hy => ⟨fun hm => h2.inv.1.ti.cons hm (q4 y hy), q4 y hy⟩⟩
theorem Inv0.fol {og lc : List (List Int)} {D : Int → Prop} {N : Nat} {S : WS} (h : Inv0 og lc D N S) : FolOk og (itemsOf S.t) := fun i hi => by
  have hil : i < S.t.l.length := by unfold itemsOf at hi; rwa [List.length_map] at hi
  obtain ⟨x, hx⟩ : ∃ x, x = S.t.l.getD i 0 := ⟨_, rfl⟩
  have e : (itemsOf S.t).getD i (0, 0, 0) = (x, S.t.level (absI x), S.t.reason (absI x)) := by
    unfold itemsOf; rw [hx]; simp [List.getD, hil]
  have e2 : ((itemsOf S.t).take i).map (·.1) = S.t.l.take i := by
    unfold itemsOf
    rw [← List.map_take, List.map_map]
    exact List.map_id _
  rw [e, e2]
  show S.t.reason (absI x) < 0 ∨ ∃ k : Nat, S.t.reason (absI x) = (k : Int) ∧ k < og.length ∧ telR (og.getD k []) (S.t.l.take i) = x
  by_cases hr : S.t.reason (absI x) < 0
  · exact .inl hr
  · right
    have hf := h.fo i hil (by rw [← hx]; omega)
    unfold Told at hf
    rw [← hx] at hf
    obtain ⟨k, g1, g2, g3, g4⟩ := hf
    have hxl : x ∈ S.t.l := by rw [hx]; exact mem_getD hil
    have sub : ∀ y ∈ S.t.l.take i, y ∈ S.t.l := fun y hy => List.mem_of_mem_take hy
    refine ⟨k, g1, g2, tel_is (h.ti.li x hxl).1 g3 (val_zero (fun hm => ?_) (fun hm => h.ti.cons hxl (sub _ hm))) (fun y hy hne => val_neg (fun hm => h.ti.cons (sub _ hm) (sub _ (g4 y hy hne))) (g4 y hy hne))⟩
    obtain ⟨j, hj, e⟩ := List.getElem_of_mem hm
    rw [List.length_take] at hj
    rw [List.getElem_take] at e
    have := nodup_at h.ti.nd (i := j) (j := i) (by omega) hil (by rw [getD_mem' (by omega), e, hx])
    omega
theorem HMode.fol {og lc : List (List Int)} {k : Nat} {id : Int} {fine : Bool} {S : WS} (h : HMode og lc k id fine S) : FolOk og (itemsOf S.t) := by
  rcases h with ⟨-, -, -, h, -⟩ | ⟨-, h⟩
  · exact h.inv.1.fol
  · exact h.inv.1.fol
/-- A Run, whatever came. -/
theorem run_any {B : Nat} {w0 w : World} {r : Nat → Nat} {wb t : Nat} {S : WS} {og lc : List (List Int)} {k : Nat} (h : LW B w0 w r wb t S) (hm : MMode og lc k S) :
    Calls Try.prog 14 #[.pointer (some ⟨wb, 0, none⟩)] w fun e w' => ∃ id fine S' r', e = .returned (.tuple #[.int .i64 id, .bool fine]) ∧ HMode og lc (k + 1) id fine S' ∧ LW B w0 w' r' wb t S' ∧ Chg (fun b => B ≤ b ∧ r b ≠ 0) w w' ∧ ∀ b, b < w.heap.size → r' b = r b := by
  rcases hm with ⟨h1, h2, h3⟩ | ⟨h1, h2⟩
  · refine (Run_broken h.at_ h1).mono ?_
    rintro e w' ⟨rfl, rfl⟩
    exact ⟨S.bk, false, S, r, rfl, .inl ⟨h1, rfl, rfl, h2, h3⟩, h, Chg.refl _ _, fun _ _ => rfl⟩
  · refine (run_ (D := Any1) [] h h2 h1 (fun x hx => by simp at hx)).mono ?_
    rintro e w' ⟨id, fine, S', r', rfl, ⟨hE, -⟩, q⟩
    exact ⟨id, fine, S', r', rfl, .inr ⟨hE.bk, hE⟩, q⟩
/-- A list of the law's own: its cells. -/
theorem LS.at_ {B : Nat} {w : World} {r : Nat → Nat} {v : Value} {xss : List (List Int)} (h : LS B w r v xss) {i : Nat} (hi : i < xss.length) :
    ∃ g cap a c, v = .slice (some ⟨g, 0, none⟩) xss.length cap ∧ (B ≤ g ∧ r g = 0) ∧ ∀ W, Chg (fun b => B ≤ b ∧ r b ≠ 0) w W → W.cell? ⟨g, i, none⟩ = some (.slice a (xss.getD i []).length c) ∧ W.frozen? ⟨g, i, none⟩ = false ∧ g < W.heap.size := by
  obtain ⟨us, h1, h2, h3, h4⟩ := h
  obtain ⟨g, cap, rfl, q1, q2, -, -⟩ := row_at1 h1 hi
  obtain ⟨a, c, hu⟩ := ints_form (h4 i hi).1
  have hg := h2 g rfl
  refine ⟨g, cap, a, c, rfl, hg, fun W hW => ?_⟩
  have h5 := h1.chg hW (fun b hb hb' => hb'.2 (h2 b hb).2)
  obtain ⟨g', cap', e, p1, p2, -, -⟩ := row_at1 h5 hi
  injection e with e1
  injection e1 with e1
  injection e1 with e1
  subst e1
  rw [hu] at p1
  exact ⟨p1, p2, World.block_lt_of_cell? W _ p1⟩
/-- One list is let go. -/
theorem LS.set_nil {B : Nat} {w : World} {r : Nat → Nat} {g n cap : Nat} {xss : List (List Int)} (h : LS B w r (.slice (some ⟨g, 0, none⟩) n cap) xss) (hn : n = xss.length) {i : Nat} (hi : i < xss.length) :
    LS B (w.setCell ⟨g, i, none⟩ (.slice none 0 0)) r (.slice (some ⟨g, 0, none⟩) n cap) (xss.set i []) ∧ Chg (fun b => B ≤ b ∧ r b = 0) w (w.setCell ⟨g, i, none⟩ (.slice none 0 0)) := by
  obtain ⟨us, h1, h2, h3, h4⟩ := h
  have hg := h2 g rfl
  have hc : Chg (fun b => B ≤ b ∧ r b = 0) w (w.setCell ⟨g, i, none⟩ (.slice none 0 0)) := (Chg.refl _ w).setCell (.inl hg) _
  refine ⟨⟨us.set i (.slice none 0 0), ?_, h2, by simp [h3], fun j hj => ?_⟩, hc⟩
  · subst hn
    have := h1.set1 i (.slice none 0 0)
    rw [List.length_set]
    exact this
  · rw [List.length_set] at hj
    by_cases e : i = j
    · subst e
      rw [getD_set_self _ _ _ _ (by omega), getD_set_self _ _ _ _ hi]
      exact ⟨ints_nil _, fun g hg => by simp [Value.ownBlock] at hg⟩
    · rw [getD_set_ne _ _ _ _ _ e, getD_set_ne _ _ _ _ _ e]
      exact ⟨(h4 j hj).1.chg hc (fun g' hg' e' => by have := (h4 j hj).2 g' hg'; have := e'.1; omega), (h4 j hj).2⟩
/-- The law's own lists, once more. -/
theorem LS.copy {B : Nat} {w w1 : World} {r : Nat → Nat} {v v' : Value} {xss : List (List Int)} {us : List Value} (h1 : Row w 23 1 v xss.length us) (h2 : ∀ g, v.ownBlock = some g → B ≤ g ∧ r g = 0) (h3 : us.length = xss.length) (h4 : ∀ j, j < xss.length → Ints w (us.getD j undef) (xss.getD j []) ∧ ∀ g, (us.getD j undef).ownBlock = some g → g < B)
    (hB : B ≤ w.heap.size) (hi : ∀ b, w.heap.size ≤ b → r b = 0) (hp : AppPost (w.alloc (.cells #[] 23)) 23 1 (.slice (some ⟨w.heap.size, 0, none⟩) 0 0) xss.length us v' w1) : LS B w1 r v' xss ∧ Below w.heap.size w w1 := by
  obtain ⟨p1, p2, p3⟩ := hp
  have hA : Below w.heap.size w (w.alloc (.cells #[] 23)) := (Below.refl _ _).alloc (Nat.le_refl _) _
  have hch : Below w.heap.size w w1 := hA.trans (p2.below (by simp) (fun b hb => by have : some w.heap.size = some b := hb; injection this with e; omega))
  refine ⟨⟨us, p1, fun g hg => ?_, h3, fun j hj => ⟨(h4 j hj).1.below hch, (h4 j hj).2⟩⟩, hch⟩
  rcases p3 with e | e
  · rw [e] at hg
    have : some w.heap.size = some g := hg
    injection this with e; exact ⟨by omega, hi g (by omega)⟩
  · rw [e] at hg; injection hg with hg; simp at hg; exact ⟨by omega, hi g (by omega)⟩
end Go.Proofs.Ytghlgegfokjgbaa
