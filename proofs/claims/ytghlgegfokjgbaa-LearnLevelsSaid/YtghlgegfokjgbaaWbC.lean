/-
  The laws of chapter 22: WatchCloses.
-/
import Derived.Test.YtghlgegfokjgbaaWbA
import Derived.Test.YtghlgegfokjgbaaWaY
import Derived.Test.YtghlgegfokjgbaaFrameS
namespace Go.Proofs.Ytghlgegfokjgbaa
open Go.ChangeShapes Go.WideShapes Go.ChangeAt Go.RowKit
set_option linter.unusedVariables false
set_option linter.unusedSimpArgs false
attribute [local go_sem ↓] Go.wp_at_zero Go.wp_at_succ
/-- A list of the law's own. -/
def OL (B : Nat) (w : World) (r : Nat → Nat) (v : Value) (xs : List Int) : Prop := Row w 3 1 v xs.length (xs.map iv) ∧ ∀ g, v.ownBlock = some g → B ≤ g ∧ r g = 0
theorem OL.chg {B : Nat} {w w' : World} {r r' : Nat → Nat} {v : Value} {xs : List Int} {T : Nat → Prop} (h : OL B w r v xs) (hc : Chg T w w') (hT : ∀ b, T b → B ≤ b ∧ r b ≠ 0) (hr : ∀ b, b < w.heap.size → r' b = r b) : OL B w' r' v xs :=
  ⟨h.1.chg hc (fun g hg hg' => (hT g hg').2 (h.2 g hg).2), fun g hg => ⟨(h.2 g hg).1, by rw [hr g (h.1.lt g hg)]; exact (h.2 g hg).2⟩⟩
theorem OL.below {B : Nat} {w w' : World} {r : Nat → Nat} {v : Value} {xs : List Int} (h : OL B w r v xs) (hb : Below w.heap.size w w') : OL B w' r v xs := h.chg (T := fun _ => False) (Chg.of_below hb) (fun _ h => h.elim) (fun _ _ => rfl)
theorem OL.of_own {B : Nat} {w wr : World} {r : Nat → Nat} {v : Value} {xs : List Int} (h : OwnI w wr v xs) (hB : B ≤ w.heap.size) (hr : ∀ b, w.heap.size ≤ b → r b = 0) : OL B wr r v xs := ⟨h.1, fun g hg => ⟨Nat.le_trans hB (h.2.2 g hg), hr g (h.2.2 g hg)⟩⟩
theorem OL.ints {B : Nat} {w : World} {r : Nat → Nat} {v : Value} {xs : List Int} (h : OL B w r v xs) : Ints w v xs := h.1.ints
theorem EInv.mono {og lc : List (List Int)} {D D' : Int → Prop} {N : Nat} {id : Int} {fine : Bool} {S : WS} (h : EInv og lc D N id fine S) (hD : ∀ x, D x → D' x) : EInv og lc D' N id fine S :=
  ⟨h.inv.mono hD (Nat.le_refl _) h.inv.1.nb, h.bk, h.yes, h.no⟩
/-- Between two decisions. -/
structure CI (og : List (List Int)) (fine could : Bool) (S : WS) (out : List Int) : Prop where
  eq : fine = could
  yes : fine = true → EInv og og (fun x => x ∈ out) 0 (-1) true S ∧ (∀ x, x ∈ S.t.l ↔ x ∈ out) ∧ Con out
theorem agreeC {og : List (List Int)} {id : Int} {fine could : Bool} {S : WS} {st out : List Int} (hE : EInv og og (fun x => x ∈ st) 0 id fine S ∧ ∀ x ∈ st, x ∈ S.t.l) (hder : Der og st out) (hcon : Con out)
    (hc1 : could = true → Closed og out) (hc0 : could = false → ∃ k, k < og.length ∧ falR (og.getD k []) out = true) : CI og fine could S out := by
  obtain ⟨hE, hst⟩ := hE
  obtain ⟨h1, h2⟩ := agree hE (fun x h => h) hst hder hcon hc1 hc0
  refine ⟨h1, fun hf => ⟨?_, h2 hf, hcon⟩⟩
  subst hf
  obtain ⟨hid, -⟩ := hE.yes rfl
  subst hid
  exact hE.mono fun x hx => by obtain ⟨m, rfl, -⟩ := hder; exact List.mem_append_left _ hx
/-- A clause that is false at any rate: so the document says. -/
theorem broken_no {og : List (List Int)} {N : Nat} {S : WS} {out : List Int} {could : Bool} (hA : AInv og N S) (hb : 0 ≤ S.bk) (hcon : Con out) (hc1 : could = true → Closed og out) : could = false := by
  cases could with
  | false => rfl
  | true =>
    have hcl := hc1 rfl
    obtain ⟨k, -, hk, hf⟩ := hA.br hb
    have hs := hA.inv.1.sub hcon (fun x h => h.elim) hcl
    have : falR (og.getD k []) out = true := fal_iff.2 fun y hy => ⟨fun hm => hcon.co y hm (hs _ (hf y hy)), hs _ (hf y hy)⟩
    rw [(hcl k hk).1] at this; cases this
theorem same_of {a b : List Int} (h : ∀ x, x ∈ a ↔ x ∈ b) : sameS a b = true := by
  unfold sameS subB
  rw [Bool.and_eq_true, List.all_eq_true, List.all_eq_true]
  exact ⟨fun x hx => by simpa using (h x).1 hx, fun x hx => by simpa using (h x).2 hx⟩
/-- A Run in a law. -/
theorem run_ {B : Nat} {w0 w : World} {r : Nat → Nat} {wb t : Nat} {S : WS} {og lc : List (List Int)} {D : Int → Prop} {N : Nat} (st : List Int) (h : LW B w0 w r wb t S) (hp : Pre og lc D N S) (hb : S.bk < 0) (hst : ∀ x ∈ st, x ∈ S.t.l) :
    Calls Try.prog 14 #[.pointer (some ⟨wb, 0, none⟩)] w fun e w' => ∃ id fine S' r', e = .returned (.tuple #[.int .i64 id, .bool fine]) ∧ (EInv og lc D N id fine S' ∧ ∀ x ∈ st, x ∈ S'.t.l) ∧ LW B w0 w' r' wb t S' ∧ Chg (fun b => B ≤ b ∧ r b ≠ 0) w w' ∧ ∀ b, b < w.heap.size → r' b = r b := by
  refine (Run_ ((run_law og lc D N).keep st) h.at_ h.hB hb hp.ok ⟨⟨hp.inv, hb⟩, hst⟩).mono ?_
  rintro e w' ⟨id, fine, S', rfl, hE, hP⟩
  obtain ⟨r', q1, q2, q3⟩ := h.post hP
  exact ⟨id, fine, S', r', rfl, hE, q1, q2, q3⟩
theorem LW.lits {B : Nat} {w0 w : World} {r : Nat → Nat} {wb t : Nat} {S : WS} (h : LW B w0 w r wb t S) (hs : S.t.l.length ≤ 1099511627776) : Calls Try.prog 23 #[.pointer (some ⟨t, 0, none⟩)] w fun e w' => ∃ u, e = .returned u ∧ ClonePost w S.t.l u w' := by
  obtain ⟨vl, vs, vd, us, xs, hV⟩ := h.at_
  obtain ⟨fp, hT, hfp⟩ := hV.tr
  exact trail_Lits hT hs
theorem decide_no {B : Nat} {w0 w : World} {r : Nat → Nat} {wb t : Nat} {S : WS} (h : LW B w0 w r wb t S) (l : Int) (hf : S.t.isFree l = false) :
    Calls Try.prog 15 #[.pointer (some ⟨t, 0, none⟩), .int .i64 l] w fun e w' => e = .returned (.bool false) ∧ w = w' := by
  obtain ⟨vl, vs, vd, us, xs, hV⟩ := h.at_
  obtain ⟨fp, hT, hfp⟩ := hV.tr
  exact trail_Decide_no hT l hf
end Go.Proofs.Ytghlgegfokjgbaa
