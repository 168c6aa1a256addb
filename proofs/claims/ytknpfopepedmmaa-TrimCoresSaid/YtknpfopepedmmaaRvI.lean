/-
  Package rup: what a nil checker says; the chapter's example, plainly.
-/
import Derived.Test.YtknpfopepedmmaaRvF
import Derived.Test.YtknpfopepedmmaaEqI
namespace Go.Proofs.Ytknpfopepedmmaa
open Go Go.ChangeShapes Go.WideShapes Go.ChangeAt Go.RowKit Go.Maps
set_option linter.unusedVariables false
set_option linter.unusedSimpArgs false
set_option maxHeartbeats 1000000 in
theorem add_nil (u : Value) (w : World) : Calls Try.prog 14 #[.pointer none, u] w fun e w' => e = .returned (.int .i64 (-1)) ∧ w' = w := by
  go_enter Try.func14, Try.ntmps14
  go_wp2
  go_ret
  exact ⟨rfl, rfl⟩
set_option maxHeartbeats 1000000 in
theorem len_nil (w : World) : Calls Try.prog 21 #[.pointer none] w fun e w' => e = .returned (.int .i64 0) ∧ w' = w := by
  go_enter Try.func21, Try.ntmps21
  go_wp2
  go_ret
  exact ⟨rfl, rfl⟩
set_option maxHeartbeats 1000000 in
theorem why_nil (u : Value) (w : World) : Calls Try.prog 17 #[.pointer none, u] w fun e w' => e = .returned (.tuple #[.slice none 0 0, .bool false]) ∧ w' = w := by
  go_enter_defers Try.func17, Try.ntmps17
  go_wp2
  exact ⟨_, results_tmp2 rfl _ _ _, rfl, rfl⟩
set_option maxHeartbeats 1000000 in
theorem remove_nil (u : Value) (w : World) : Calls Try.prog 15 #[.pointer none, u] w fun e w' => e = .returned (.tuple #[.int .i64 (-1), .bool false]) ∧ Below w.heap.size w w' := by
  have HB : Hid (∀ c, Below w.heap.size w (w.alloc c)) := Lib.hid fun c => (Below.refl _ w).alloc (Nat.le_refl _) c
  go_enter Try.func15, Try.ntmps15
  go_wp2
  go_ret2
  exact ⟨rfl, HB.out _⟩
/-! ### the example -/
def exS : RS := (RS0.add (normC [1, 2])).add (normC [-1, 2])
theorem set0 : Set_ RS0 0 := ⟨⟨Con.nil, rfl, fun i hi => by simp [RS0] at hi, Nat.le_refl _, fun i hi => by simp [RS0] at hi⟩, rfl, fun _ i hi => by omega, fun hb => absurd rfl hb⟩
theorem nodup_normC (c : List Int) : (normC c).Nodup := (strict_normC c).imp fun {a b} h e => by rw [e] at h; omega
theorem lits_normC {c : List Int} (h : Lit30s c) : Lit30s (normC c) := fun x hx => h x ((mem_normC c x).1 hx)
theorem lits_of (c : List Int) (h : c.all litB = true) : Lit30s c := fun x hx => litB_iff.1 (List.all_eq_true.1 h x hx)
theorem exS_law : Set_ exS 2 ∧ exS.cl = [normC [1, 2], normC [-1, 2]] ∧ exS.on = [true, true] := by
  obtain ⟨a1, a2, a3⟩ := add_law (S := RS0) set0 (lits_normC (lits_of [1, 2] rfl)) (nodup_normC [1, 2])
  have e1 : (RS0.add (normC [1, 2])).cl.length = 1 := by rw [a2]; rfl
  have a1 : Set_ (RS0.add (normC [1, 2])) (RS0.add (normC [1, 2])).cl.length := by rw [e1]; exact a1
  obtain ⟨b1, b2, b3⟩ := add_law a1 (lits_normC (lits_of [-1, 2] rfl)) (nodup_normC [-1, 2])
  rw [e1] at b1
  exact ⟨b1, by show ((RS0.add (normC [1, 2])).add (normC [-1, 2])).cl = _; rw [b2, a2]; rfl, by show ((RS0.add (normC [1, 2])).add (normC [-1, 2])).on = _; rw [b3, a3]; rfl⟩
theorem exS_c : exS.c 0 = [1, 2] ∧ exS.c 1 = [-1, 2] := by
  obtain ⟨-, h, -⟩ := exS_law
  unfold RS.c
  rw [h]
  exact ⟨by decide, by decide⟩
theorem exS_on : exS.onA 0 = true ∧ exS.onA 1 = true := by
  obtain ⟨-, -, h⟩ := exS_law
  unfold RS.onA
  rw [h]
  exact ⟨rfl, rfl⟩
theorem exS_len : exS.cl.length = 2 := by rw [exS_law.2.1]; rfl
theorem exS_live : exS.live.length = 2 := by
  obtain ⟨h0, h1⟩ := exS_on
  have h : exS.on.length = 2 := by rw [exS_law.2.2]; rfl
  unfold RS.live
  rw [h]
  show (([0, 1] : List Nat).filter exS.onA).length = 2
  rw [List.filter_cons, if_pos h0, List.filter_cons, if_pos h1]; rfl
theorem con_of (T : List Int) (h : T.all litB = true) (hn : T.Nodup) (hc : (T.all fun x => !T.contains (-x)) = true) : Con T :=
  ⟨lits_of T h, hn, fun x hx hn' => by
    have := List.all_eq_true.1 hc x hx
    simp at this
    exact this hn'⟩
theorem exS_two : ¬ OpenS exS [2] := fun ⟨T, t1, t2, t3⟩ => by
  have h2 : (-2 : Int) ∈ T := t2 2 (by simp)
  have c0 := t3 0 (by rw [exS_len]; omega) exS_on.1
  have c1 := t3 1 (by rw [exS_len]; omega) exS_on.2
  rw [exS_c.1] at c0
  rw [exS_c.2] at c1
  have h1 : (1 : Int) ∈ T := told_core (by decide) t1 c0 (by simp) (fun y hy hne => by
    simp at hy
    rcases hy with e | e
    · exact absurd e hne
    · rw [e]; exact h2)
  exact not_false t1 c1 (fun y hy => by
    simp at hy
    rcases hy with e | e
    · rw [e]; exact h1
    · rw [e]; exact h2)
theorem exS_one : OpenS exS [1] := by
  refine ⟨[-1, 2], con_of _ (by decide) (by decide) (by decide), fun y hy => by simp at hy; rw [hy]; simp, fun i hi _ => ?_⟩
  rw [exS_len] at hi
  have : i = 0 ∨ i = 1 := by omega
  rcases this with e | e
  · rw [e, exS_c.1]; exact ⟨by decide, by decide⟩
  · rw [e, exS_c.2]; exact ⟨by decide, by decide⟩
theorem exS_why {is : Bool} {R : List Nat} (h : WhyR exS [2] is R) : is = true ∧ R = [0, 1] := by
  have hi : is = true := h.yes.2 exS_two
  refine ⟨hi, ?_⟩
  have hin : ∀ j ∈ R, j = 0 ∨ j = 1 := fun j hj => by
    have := (h.on j hj).1
    rw [exS_len] at this; omega
  have h0 : 0 ∈ R := Decidable.byContradiction fun hn => by
    refine h.core hi [-1, -2] (con_of _ (by decide) (by decide) (by decide)) (fun y hy => by simp at hy; rw [hy]; simp) (fun j hj => ?_)
    rcases hin j hj with e | e
    · rw [e] at hj; exact absurd hj hn
    · rw [e, exS_c.2]; exact ⟨by decide, by decide⟩
  have h1 : 1 ∈ R := Decidable.byContradiction fun hn => by
    refine h.core hi [1, -2] (con_of _ (by decide) (by decide) (by decide)) (fun y hy => by simp at hy; rw [hy]; simp) (fun j hj => ?_)
    rcases hin j hj with e | e
    · rw [e, exS_c.1]; exact ⟨by decide, by decide⟩
    · rw [e] at hj; exact absurd hj hn
  have hu := h.up
  match R, hu, hin, h0, h1 with
  | [], _, _, h0, _ => simp at h0
  | [a], _, _, h0, h1 => simp at h0 h1; omega
  | [a, b], hu, hin, h0, h1 =>
    have ha := hin a (by simp)
    have hb := hin b (by simp)
    simp at hu
    have h9 : a = 0 ∧ b = 1 := by omega
    rw [h9.1, h9.2]
  | a :: b :: c :: r, hu, hin, _, _ =>
    have ha := hin a (by simp)
    have hb := hin b (by simp)
    have hc := hin c (by simp)
    simp at hu
    obtain ⟨⟨u1, u2, -⟩, ⟨u3, -⟩, -⟩ := hu
    omega
theorem exS_no {is : Bool} {R : List Nat} (h : WhyR exS [1] is R) : is = false := by
  cases is with
  | false => rfl
  | true => exact absurd exS_one (h.yes.1 rfl)
end Go.Proofs.Ytknpfopepedmmaa
/-
  Package rup: a checker of the caller's own; the law's example, walked.
-/
namespace Go.Proofs.Ytknpfopepedmmaa
open Go Go.ChangeShapes Go.WideShapes Go.ChangeAt Go.RowKit Go.Maps
set_option linter.unusedVariables false
set_option linter.unusedSimpArgs false
theorem ints_lit (w : World) (xs : List Int) (hl : xs.length ≤ maxLen) : Ints (w.alloc (.cells (xs.map iv).toArray 3)) (.slice (some ⟨w.heap.size, 0, none⟩) xs.length xs.length) xs := by
  refine ⟨_, _, rfl, (fun h => by cases h), Nat.le_refl _, hl, .inr ⟨w.heap.size, 0, rfl, fun j hj => ?_⟩⟩
  rw [(Blk.new w 3 (xs.map iv).toArray).cell (0 + j)]
  simp [iv, hj]
theorem CkAt.mono {w : World} {r : Nat} {S : RS} {K K' : Nat → Prop} (h : CkAt w r S K) (hs : ∀ g, K g → K' g) : CkAt w r S K' := by
  obtain ⟨vl, vt, bt, bo, bm, nt, no, nm, us, ho, h1, h2, h3⟩ := h
  exact ⟨vl, vt, bt, bo, bm, nt, no, nm, us, ho, h1, fun g hg => hs g (h2 g hg), h3.1, h3.2.1, fun u hu g hg => hs g (h3.2.2 u hu g hg)⟩
theorem Lit30s.clauseL {c : List Int} (h : Lit30s c) : ClauseL c := fun x hx => by
  obtain ⟨a, b, d⟩ := h x hx
  exact ⟨a, by omega, by omega⟩
/-- A checker that the caller has made. -/
structure OwnC (w wr : World) (r : Nat) (S : RS) : Prop where
  at_ : CkAt wr r S (fun g => w.heap.size ≤ g)
  b : Below w.heap.size w wr
  set : Set_ S S.cl.length
section
variable {w wr : World} {r : Nat} {S : RS}
theorem OwnC.below (h : OwnC w wr r S) {w2 : World} (hb : Below wr.heap.size wr w2) : OwnC w w2 r S := ⟨h.at_.below hb, h.b.trans (hb.mono h.b.size), h.set⟩
theorem ownC_new (w : World) : Calls Try.prog 12 #[] w fun e w' => ∃ r, e = .returned (kp r) ∧ OwnC w w' r RS0 :=
  (rupNew_ w).mono fun e w' ⟨r, he, hb, hk⟩ => ⟨r, he, hk, hb, set0⟩
theorem OwnC.add (h : OwnC w wr r S) (hcl : S.cl.length ≤ 99999) {u : Value} {c : List Int} (hu : Ints wr u c) (hc : okC c = true) :
    Calls Try.prog 14 #[kp r, u] wr fun e w' => e = .returned (.int .i64 (S.cl.length : Nat)) ∧ OwnC w w' r (S.add (normC c)) ∧ Below w.heap.size w w' := by
  obtain ⟨h1, h2⟩ := okC_lits hc
  refine (add_ h.at_ h.set hcl hu h1.clauseL h1 (by omega)).mono ?_
  rintro e w' ⟨rfl, hch, hk⟩
  have hlaw := add_law h.set (lits_normC h1) (nodup_normC c)
  have hb : Below w.heap.size w w' := h.b.trans (hch.below h.b.size (fun i hi => hi))
  refine ⟨rfl, ⟨hk.mono (fun g hg => ?_), hb, ?_⟩, hb⟩
  · rcases hg with e | e
    · exact e
    · exact Nat.le_trans h.b.size e
  · rw [hlaw.2.1, List.length_append, List.length_singleton]; exact hlaw.1
theorem OwnC.why (h : OwnC w wr r S) (hcl : S.cl.length ≤ 1000000) {u : Value} {c : List Int} (hu : Ints wr u c) (hc : okC c = true) :
    Calls Try.prog 17 #[kp r, u] wr fun e w' => ∃ (v : Value) (is : Bool) (R : List Nat), e = .returned (.tuple #[v, .bool is]) ∧ WhyR S c is R ∧ OwnC w w' r S ∧ Ints w' v (R.map fun i : Nat => (i : Int)) ∧ CkAt w' r S (fun g => w.heap.size ≤ g ∧ v.ownBlock ≠ some g) := by
  obtain ⟨h1, h2⟩ := okC_lits hc
  refine (why_ h.at_ h.set hcl hu h1.clauseL h1 (by omega)).mono ?_
  rintro e w' ⟨v, is, R, rfl, hw, hch, hk, hr, ho⟩
  have hb : Below w.heap.size w w' := h.b.trans (hch.below h.b.size (fun i hi => hi))
  have hge : ∀ g, ((w.heap.size ≤ g ∨ wr.heap.size ≤ g) ∧ v.ownBlock ≠ some g) → w.heap.size ≤ g := fun g hg => by
    rcases hg.1 with e | e
    · exact e
    · exact Nat.le_trans h.b.size e
  refine ⟨v, is, R, rfl, hw, ⟨hk.mono hge, hb, h.set⟩, ?_, hk.mono (fun g hg => ⟨hge g hg, hg.2⟩)⟩
  · have e : (R.map fun i : Nat => iv (i : Nat)) = (R.map fun i : Nat => (i : Int)).map iv := by rw [List.map_map]; rfl
    rw [e] at hr
    have hl : R.length = (R.map fun i : Nat => (i : Int)).length := by rw [List.length_map]
    rw [hl] at hr
    exact hr.ints
/-- What was handed back before stays. -/
theorem OwnC.why_keep {v0 : Value} {l0 : List Int} (h : OwnC w wr r S) (hk0 : CkAt wr r S (fun g => w.heap.size ≤ g ∧ v0.ownBlock ≠ some g)) (hv0 : Ints wr v0 l0) (hcl : S.cl.length ≤ 1000000) {u : Value} {c : List Int} (hu : Ints wr u c) (hc : okC c = true) :
    Calls Try.prog 17 #[kp r, u] wr fun e w' => ∃ (v : Value) (is : Bool) (R : List Nat), e = .returned (.tuple #[v, .bool is]) ∧ WhyR S c is R ∧ OwnC w w' r S ∧ Ints w' v0 l0 := by
  obtain ⟨h1, h2⟩ := okC_lits hc
  refine (why_ hk0 h.set hcl hu h1.clauseL h1 (by omega)).mono ?_
  rintro e w' ⟨v, is, R, rfl, hw, hch, hk, hr, ho⟩
  have hb : Below w.heap.size w w' := h.b.trans (hch.below h.b.size (fun i hi => hi.1))
  refine ⟨v, is, R, rfl, hw, ⟨hk.mono (fun g hg => ?_), hb, h.set⟩, hv0.chg hch (fun g hg e => e.2 hg)⟩
  rcases hg.1 with e | e
  · exact e.1
  · exact Nat.le_trans h.b.size e
end
set_option maxHeartbeats 4000000 in
set_option maxRecDepth 100000 in
theorem alive25 (w : World) : Calls Try.prog 11 #[] w fun e w' => e = .returned (.bool true) ∧ Below w.heap.size w w' := by
  have HNW := Lib.hid (ownC_new w)
  go_enter Try.func11, Try.ntmps11
  go_wp2_with fail
  refine HNW.out.mono ?_
  rintro e w1 ⟨r, rfl, h1⟩
  obtain ⟨wa, hwa⟩ : ∃ wa, wa = w1.alloc (.cells #[.int .i64 1, .int .i64 2] 3) := ⟨_, rfl⟩
  have hba : Below w1.heap.size w1 wa := by rw [hwa]; exact (Below.refl _ w1).alloc (Nat.le_refl _) _
  have HA1 := Lib.hid ((h1.below hba).add (by show (0 : Nat) ≤ 99999; omega) (c := [1, 2]) (u := .slice (some ⟨w1.heap.size, 0, none⟩) 2 2) (by rw [hwa]; exact ints_lit w1 [1, 2] (by decide)) rfl)
  clear h1 hba
  go_wp2_with fail
  rw [← hwa]
  refine HA1.out.mono ?_
  rintro e w2 ⟨rfl, h2, hb2⟩
  clear hwa HA1 HNW
  have hn1 : (RS0.add (normC [1, 2])).cl.length = 1 := by
    have := (add_law (S := RS0) set0 (lits_normC (lits_of [1, 2] rfl)) (nodup_normC [1, 2])).2.1
    rw [this]; rfl
  have hz : ((RS0.cl.length : Nat) : Int) = 0 := rfl
  rw [hz]
  obtain ⟨wb, hwb⟩ : ∃ wb, wb = w2.alloc (.cells #[.int .i64 (-1), .int .i64 2] 3) := ⟨_, rfl⟩
  have hbb : Below w2.heap.size w2 wb := by rw [hwb]; exact (Below.refl _ w2).alloc (Nat.le_refl _) _
  have HA2 := Lib.hid ((h2.below hbb).add (by rw [hn1]; omega) (c := [-1, 2]) (u := .slice (some ⟨w2.heap.size, 0, none⟩) 2 2) (by rw [hwb]; exact ints_lit w2 [-1, 2] (by decide)) rfl)
  rw [hn1] at HA2
  clear h2 hb2 hbb hn1 hz
  go_wp2_with fail
  rw [← hwb]
  refine HA2.out.mono ?_
  rintro e w3 ⟨rfl, h3, -⟩
  clear hwb HA2
  have h3 : OwnC w w3 r exS := h3
  obtain ⟨wc, hwc⟩ : ∃ wc, wc = w3.alloc (.cells #[.int .i64 2] 3) := ⟨_, rfl⟩
  have hbc : Below w3.heap.size w3 wc := by rw [hwc]; exact (Below.refl _ w3).alloc (Nat.le_refl _) _
  have HW1 := Lib.hid ((h3.below hbc).why (by rw [exS_len]; omega) (c := [2]) (u := .slice (some ⟨w3.heap.size, 0, none⟩) 1 1) (by rw [hwc]; exact ints_lit w3 [2] (by decide)) rfl)
  clear h3 hbc
  go_wp2_with fail
  rw [← hwc]
  refine HW1.out.mono ?_
  rintro e w4 ⟨v, is, R, rfl, hy, h4, hv, hk4⟩
  obtain ⟨rfl, rfl⟩ := exS_why hy
  clear hwc HW1 hy
  obtain ⟨wd, hwd⟩ : ∃ wd, wd = w4.alloc (.cells #[.int .i64 1] 3) := ⟨_, rfl⟩
  have hbd : Below w4.heap.size w4 wd := by rw [hwd]; exact (Below.refl _ w4).alloc (Nat.le_refl _) _
  have HW2 := Lib.hid ((h4.below hbd).why_keep (hk4.below hbd) (hv.below hbd) (by rw [exS_len]; omega) (c := [1]) (u := .slice (some ⟨w4.heap.size, 0, none⟩) 1 1) (by rw [hwd]; exact ints_lit w4 [1] (by decide)) rfl)
  clear h4 hbd hv hk4
  go_wp2_with fail
  rw [← hwd]
  refine HW2.out.mono ?_
  rintro e w5 ⟨v2, is, R, rfl, hy, h5, hv⟩
  obtain rfl := exS_no hy
  clear hwd HW2 hy
  obtain ⟨we, hwe⟩ : ∃ we, we = w5.alloc (.cells #[.int .i64 0, .int .i64 1] 3) := ⟨_, rfl⟩
  have hbe : Below w5.heap.size w5 we := by rw [hwe]; exact (Below.refl _ w5).alloc (Nat.le_refl _) _
  have HSM := Lib.hid (r01_Same (hv.below hbe) (u := .slice (some ⟨w5.heap.size, 0, none⟩) 2 2) (ys := [0, 1]) (by rw [hwe]; exact ints_lit w5 [0, 1] (by decide)))
  have H5 := Lib.hid (h5.below hbe)
  clear h5 hbe hv
  go_wp2_with fail
  rw [← hwe]
  refine HSM.out.mono ?_
  rintro e w6 ⟨rfl, hq⟩
  have hb6 := hq.below
  have h6 := H5.out.below hb6
  have HLN := Lib.hid (rupLen_ h6.at_)
  rw [exS_live] at HLN
  have H6 := Lib.hid h6.b
  have hsm : sameB (List.map (fun i : Nat => (i : Int)) [0, 1]) [0, 1] = true := by decide
  rw [hsm]
  clear hwe HSM hq hb6 h6 hsm
  go_wp2_with fail
  refine HLN.out.mono ?_
  rintro e w7 ⟨rfl, rfl⟩
  go_wp2
  go_ret
  exact ⟨rfl, H6.out⟩
end Go.Proofs.Ytknpfopepedmmaa
/-
  The law RupNils.
-/
namespace Go.Proofs.Ytknpfopepedmmaa
open Go Go.ChangeShapes Go.WideShapes Go.ChangeAt Go.RowKit Go.Maps
set_option linter.unusedVariables false
set_option linter.unusedSimpArgs false
theorem intsS_lit1 {w : World} {u : Value} {c : List Int} (h : Ints w u c) : IntsS (w.alloc (.cells #[u] 28)) (.slice (some ⟨w.heap.size, 0, none⟩) 1 1) [c] := by
  refine ⟨_, 1, rfl, Nat.le_refl _, by decide, .inr ⟨w.heap.size, 0, rfl, fun j hj => ?_⟩⟩
  have : j = 0 := by simp at hj; omega
  subst this
  exact ⟨u, (Blk.new w 28 #[u]).cell 0, h.below ((Below.refl _ w).alloc (Nat.le_refl _) _)⟩
theorem fine1 (c : List Int) : fineR [c] = okC c := by simp [fineR]
set_option maxHeartbeats 4000000 in
set_option maxRecDepth 100000 in
theorem claw_rnils {w : World} {u : Value} {c : List Int} (h : Ints w u c) : Calls Try.prog 4 #[u] w fun e w' => e = .returned (.bool true) ∧ Below w.heap.size w w' := by
  obtain ⟨wa, hwa⟩ : ∃ wa, wa = w.alloc (.cells #[u] 28) := ⟨_, rfl⟩
  have hba : Below w.heap.size w wa := by rw [hwa]; exact (Below.refl _ w).alloc (Nat.le_refl _) _
  have hF := r25_Fine (w := wa) (v := .slice (some ⟨w.heap.size, 0, none⟩) 1 1) (xss := [c]) (by rw [hwa]; exact intsS_lit1 h)
  rw [fine1] at hF
  obtain ⟨b, hb⟩ : ∃ b, b = okC c := ⟨_, rfl⟩
  rw [← hb] at hF
  have HF := Lib.hid hF
  have HBA := Lib.hid hba
  obtain ⟨ua, uc, hue, -, -⟩ := h.form2
  obtain ⟨n, hn⟩ : ∃ n, n = c.length := ⟨_, rfl⟩
  rw [← hn] at hue
  clear hF hba h hb hn
  subst hue
  go_enter Try.func4, Try.ntmps4
  go_wp2_with fail
  rw [← hwa]
  refine HF.out.mono ?_
  rintro e w1 ⟨rfl, rfl⟩
  clear hwa HF
  cases b with
  | false =>
    have HA := Lib.hid (alive25 w1)
    go_wp2_with fail
    refine HA.out.mono ?_
    rintro e w2 ⟨rfl, hb2⟩
    have H2 := Lib.hid (HBA.out.trans (hb2.mono HBA.out.size))
    clear hb2
    go_wp2
    go_ret
    exact ⟨rfl, H2.out⟩
  | true =>
    have HRM := Lib.hid (remove_nil (.slice ua n uc) w1)
    go_wp2_with fail
    refine HRM.out.mono ?_
    rintro e w2 ⟨rfl, hb2⟩
    have H2 := Lib.hid (HBA.out.trans (hb2.mono HBA.out.size))
    clear hb2
    go_wp2_with fail
    refine (why_nil (.slice ua n uc) w2).mono ?_
    rintro e w3 ⟨rfl, rfl⟩
    go_wp2_with fail
    refine (add_nil (.slice ua n uc) w3).mono ?_
    rintro e w4 ⟨rfl, rfl⟩
    go_wp2_with fail
    refine (len_nil w4).mono ?_
    rintro e w5 ⟨rfl, rfl⟩
    have HA := Lib.hid (alive25 w5)
    go_wp2_with fail
    refine HA.out.mono ?_
    rintro e w6 ⟨rfl, hb6⟩
    have H6 := Lib.hid (H2.out.trans (hb6.mono H2.out.size))
    clear hb6
    go_wp2
    go_ret
    exact ⟨rfl, H6.out⟩
end Go.Proofs.Ytknpfopepedmmaa
