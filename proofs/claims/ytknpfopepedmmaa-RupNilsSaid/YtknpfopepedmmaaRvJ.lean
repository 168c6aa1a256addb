/-
  Package rup: a checker of the caller's own; the law's example, walked.
-/
import Derived.Test.YtknpfopepedmmaaRvI
namespace Go.Proofs.Ytknpfopepedmmaa
open Go Go.ChangeShapes Go.WideShapes Go.ChangeAt Go.RowKit Go.Maps
set_option linter.unusedVariables false
set_option linter.unusedSimpArgs false
theorem ints_lit (w : World) (xs : List Int) (hl : xs.length ≤ maxLen) : Ints (w.alloc (.cells (xs.map iv).toArray 3)) (.slice (some ⟨w.heap.size, 0, none⟩) xs.length xs.length) xs := by
  refine ⟨_, _, rfl, (fun h => by cases h), Nat.le_refl _, hl, .inr ⟨w.heap.size, 0, rfl, fun j hj => ?_⟩⟩
  rw [(Blk.new w 3 (xs.map iv).toArray).cell (0 + j)]
  simp [iv, hj]
theorem CkAt.mono {w : World} {r : Nat} {S : RS} {K K' : Nat → Prop} (h : CkAt w r S K) (hs : ∀ g, K g → K' g) : CkAt w r S K' := by
  obtain ⟨vl, vt, bt, bo, bm, nt, no, nm, us, ho, h1, h2, h3⟩ := h
  exact ⟨vl, vt, bt, bo, bm, nt, no, nm, us, ho, h1, fun g hg => hs g (h2 g hg), h3⟩
theorem Lit30s.clauseL {c : List Int} (h : Lit30s c) : ClauseL c := fun x hx => by
  obtain ⟨a, b, d⟩ := h x hx
  exact ⟨a, by omega, by omega⟩
/-- A checker that the caller has made. -/
structure OwnC (w wr : World) (r : Nat) (S : RS) : Prop where
  at_ : CkAt wr r S (fun g => w.heap.size ≤ g)
  b : Below w.heap.size w wr
  set : Set_ S S.cl.length
section
variable {w wr : World} {r : Nat} {S : RS}
theorem OwnC.below (h : OwnC w wr r S) {w2 : World} (hb : Below wr.heap.size wr w2) : OwnC w w2 r S := ⟨h.at_.below hb, h.b.trans (hb.mono h.b.size), h.set⟩
theorem ownC_new (w : World) : Calls Try.prog 12 #[] w fun e w' => ∃ r, e = .returned (kp r) ∧ OwnC w w' r RS0 :=
  (rupNew_ w).mono fun e w' ⟨r, he, hb, hk⟩ => ⟨r, he, hk, hb, set0⟩
theorem OwnC.add (h : OwnC w wr r S) (hcl : S.cl.length ≤ 99999) {u : Value} {c : List Int} (hu : Ints wr u c) (hc : okC c = true) :
    Calls Try.prog 14 #[kp r, u] wr fun e w' => e = .returned (.int .i64 (S.cl.length : Nat)) ∧ OwnC w w' r (S.add (normC c)) ∧ Below w.heap.size w w' := by
  obtain ⟨h1, h2⟩ := okC_lits hc
  refine (add_ h.at_ h.set hcl hu h1.clauseL h1 (by omega)).mono ?_
  rintro e w' ⟨rfl, hch, hk⟩
  have hlaw := add_law h.set (lits_normC h1) (nodup_normC c)
  have hb : Below w.heap.size w w' := h.b.trans (hch.below h.b.size (fun i hi => hi))
  refine ⟨rfl, ⟨hk.mono (fun g hg => ?_), hb, ?_⟩, hb⟩
  · rcases hg with e | e
    · exact e
    · exact Nat.le_trans h.b.size e
  · rw [hlaw.2.1, List.length_append, List.length_singleton]; exact hlaw.1
theorem OwnC.why (h : OwnC w wr r S) (hcl : S.cl.length ≤ 1000000) {u : Value} {c : List Int} (hu : Ints wr u c) (hc : okC c = true) :
    Calls Try.prog 17 #[kp r, u] wr fun e w' => ∃ (v : Value) (is : Bool) (R : List Nat), e = .returned (.tuple #[v, .bool is]) ∧ WhyR S c is R ∧ OwnC w w' r S ∧ Ints w' v (R.map fun i : Nat => (i : Int)) ∧ CkAt w' r S (fun g => w.heap.size ≤ g ∧ v.ownBlock ≠ some g) := by
  obtain ⟨h1, h2⟩ := okC_lits hc
  refine (why_ h.at_ h.set hcl hu h1.clauseL h1 (by omega)).mono ?_
  rintro e w' ⟨v, is, R, rfl, hw, hch, hk, hr, ho⟩
  have hb : Below w.heap.size w w' := h.b.trans (hch.below h.b.size (fun i hi => hi))
  have hge : ∀ g, ((w.heap.size ≤ g ∨ wr.heap.size ≤ g) ∧ v.ownBlock ≠ some g) → w.heap.size ≤ g := fun g hg => by
    rcases hg.1 with e | e
    · exact e
    · exact Nat.le_trans h.b.size e
  refine ⟨v, is, R, rfl, hw, ⟨hk.mono hge, hb, h.set⟩, ?_, hk.mono (fun g hg => ⟨hge g hg, hg.2⟩)⟩
  · have e : (R.map fun i : Nat => iv (i : Nat)) = (R.map fun i : Nat => (i : Int)).map iv := by rw [List.map_map]; rfl
    rw [e] at hr
    have hl : R.length = (R.map fun i : Nat => (i : Int)).length := by rw [List.length_map]
    rw [hl] at hr
    exact hr.ints
/-- What was handed back before stays. -/
theorem OwnC.why_keep {v0 : Value} {l0 : List Int} (h : OwnC w wr r S) (hk0 : CkAt wr r S (fun g => w.heap.size ≤ g ∧ v0.ownBlock ≠ some g)) (hv0 : Ints wr v0 l0) (hcl : S.cl.length ≤ 1000000) {u : Value} {c : List Int} (hu : Ints wr u c) (hc : okC c = true) :
    Calls Try.prog 17 #[kp r, u] wr fun e w' => ∃ (v : Value) (is : Bool) (R : List Nat), e = .returned (.tuple #[v, .bool is]) ∧ WhyR S c is R ∧ OwnC w w' r S ∧ Ints w' v0 l0 := by
  obtain ⟨h1, h2⟩ := okC_lits hc
  refine (why_ hk0 h.set hcl hu h1.clauseL h1 (by omega)).mono ?_
  rintro e w' ⟨v, is, R, rfl, hw, hch, hk, hr, ho⟩
  have hb : Below w.heap.size w w' := h.b.trans (hch.below h.b.size (fun i hi => hi.1))
  refine ⟨v, is, R, rfl, hw, ⟨hk.mono (fun g hg => ?_), hb, h.set⟩, hv0.chg hch (fun g hg e => e.2 hg)⟩
  rcases hg.1 with e | e
  · exact e.1
  · exact Nat.le_trans h.b.size e
end
set_option maxHeartbeats 4000000 in
set_option maxRecDepth 100000 in
theorem alive25 (w : World) : Calls Try.prog 11 #[] w fun e w' => e = .returned (.bool true) ∧ Below w.heap.size w w' := by
  have HNW := Lib.hid (ownC_new w)
  go_enter Try.func11, Try.ntmps11
  go_wp2_with fail
  refine HNW.out.mono ?_
  rintro e w1 ⟨r, rfl, h1⟩
  obtain ⟨wa, hwa⟩ : ∃ wa, wa = w1.alloc (.cells #[.int .i64 1, .int .i64 2] 3) := ⟨_, rfl⟩
  have hba : Below w1.heap.size w1 wa := by rw [hwa]; exact (Below.refl _ w1).alloc (Nat.le_refl _) _
  have HA1 := Lib.hid ((h1.below hba).add (by show (0 : Nat) ≤ 99999; omega) (c := [1, 2]) (u := .slice (some ⟨w1.heap.size, 0, none⟩) 2 2) (by rw [hwa]; exact ints_lit w1 [1, 2] (by decide)) rfl)
  clear h1 hba
  go_wp2_with fail
  rw [← hwa]
  refine HA1.out.mono ?_
  rintro e w2 ⟨rfl, h2, hb2⟩
  clear hwa HA1 HNW
  have hn1 : (RS0.add (normC [1, 2])).cl.length = 1 := by
    have := (add_law (S := RS0) set0 (lits_normC (lits_of [1, 2] rfl)) (nodup_normC [1, 2])).2.1
    rw [this]; rfl
  have hz : ((RS0.cl.length : Nat) : Int) = 0 := rfl
  rw [hz]
  obtain ⟨wb, hwb⟩ : ∃ wb, wb = w2.alloc (.cells #[.int .i64 (-1), .int .i64 2] 3) := ⟨_, rfl⟩
  have hbb : Below w2.heap.size w2 wb := by rw [hwb]; exact (Below.refl _ w2).alloc (Nat.le_refl _) _
  have HA2 := Lib.hid ((h2.below hbb).add (by rw [hn1]; omega) (c := [-1, 2]) (u := .slice (some ⟨w2.heap.size, 0, none⟩) 2 2) (by rw [hwb]; exact ints_lit w2 [-1, 2] (by decide)) rfl)
  rw [hn1] at HA2
  clear h2 hb2 hbb hn1 hz
  go_wp2_with fail
  rw [← hwb]
  refine HA2.out.mono ?_
  rintro e w3 ⟨rfl, h3, -⟩
  clear hwb HA2
  have h3 : OwnC w w3 r exS := h3
  obtain ⟨wc, hwc⟩ : ∃ wc, wc = w3.alloc (.cells #[.int .i64 2] 3) := ⟨_, rfl⟩
  have hbc : Below w3.heap.size w3 wc := by rw [hwc]; exact (Below.refl _ w3).alloc (Nat.le_refl _) _
  have HW1 := Lib.hid ((h3.below hbc).why (by rw [exS_len]; omega) (c := [2]) (u := .slice (some ⟨w3.heap.size, 0, none⟩) 1 1) (by rw [hwc]; exact ints_lit w3 [2] (by decide)) rfl)
  clear h3 hbc
  go_wp2_with fail
  rw [← hwc]
  refine HW1.out.mono ?_
  rintro e w4 ⟨v, is, R, rfl, hy, h4, hv, hk4⟩
  obtain ⟨rfl, rfl⟩ := exS_why hy
  clear hwc HW1 hy
  obtain ⟨wd, hwd⟩ : ∃ wd, wd = w4.alloc (.cells #[.int .i64 1] 3) := ⟨_, rfl⟩
  have hbd : Below w4.heap.size w4 wd := by rw [hwd]; exact (Below.refl _ w4).alloc (Nat.le_refl _) _
  have HW2 := Lib.hid ((h4.below hbd).why_keep (hk4.below hbd) (hv.below hbd) (by rw [exS_len]; omega) (c := [1]) (u := .slice (some ⟨w4.heap.size, 0, none⟩) 1 1) (by rw [hwd]; exact ints_lit w4 [1] (by decide)) rfl)
  clear h4 hbd hv hk4
  go_wp2_with fail
  rw [← hwd]
  refine HW2.out.mono ?_
  rintro e w5 ⟨v2, is, R, rfl, hy, h5, hv⟩
  obtain rfl := exS_no hy
  clear hwd HW2 hy
  obtain ⟨we, hwe⟩ : ∃ we, we = w5.alloc (.cells #[.int .i64 0, .int .i64 1] 3) := ⟨_, rfl⟩
  have hbe : Below w5.heap.size w5 we := by rw [hwe]; exact (Below.refl _ w5).alloc (Nat.le_refl _) _
  have HSM := Lib.hid (r01_Same (hv.below hbe) (u := .slice (some ⟨w5.heap.size, 0, none⟩) 2 2) (ys := [0, 1]) (by rw [hwe]; exact ints_lit w5 [0, 1] (by decide)))
  have H5 := Lib.hid (h5.below hbe)
  clear h5 hbe hv
  go_wp2_with fail
  rw [← hwe]
  refine HSM.out.mono ?_
  rintro e w6 ⟨rfl, hq⟩
  have hb6 := hq.below
  have h6 := H5.out.below hb6
  have HLN := Lib.hid (rupLen_ h6.at_)
  rw [exS_live] at HLN
  have H6 := Lib.hid h6.b
  have hsm : sameB (List.map (fun i : Nat => (i : Int)) [0, 1]) [0, 1] = true := by decide
  rw [hsm]
  clear hwe HSM hq hb6 h6 hsm
  go_wp2_with fail
  refine HLN.out.mono ?_
  rintro e w7 ⟨rfl, rfl⟩
  go_wp2
  go_ret
  exact ⟨rfl, H6.out⟩
end Go.Proofs.Ytknpfopepedmmaa
