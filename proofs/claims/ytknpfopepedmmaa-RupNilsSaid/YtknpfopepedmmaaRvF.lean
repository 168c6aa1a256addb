/-
  Package rup: why a clause follows, plainly, and what is left of a checker behind it.
-/
import Derived.Test.YtknpfopepedmmaaRvE
import Derived.Test.YtknpfopepedmmaaRvA
namespace Go.Proofs.Ytknpfopepedmmaa
open Go Go.ChangeShapes Go.WideShapes Go.ChangeAt Go.RowKit Go.Maps
set_option linter.unusedVariables false
set_option linter.unusedSimpArgs false
/-- Whether a clause follows, and of which. -/
structure WhyR (S : RS) (c : List Int) (is : Bool) (R : List Nat) : Prop where
  yes : is = true ↔ ¬ OpenS S c
  up : R.Pairwise (· < ·)
  on : ∀ j ∈ R, j < S.cl.length ∧ S.onA j = true
  core : is = true → ∀ T, Con T → (∀ y ∈ c, -y ∈ T) → ¬ ∀ j ∈ R, ClosedC (S.c j) T
  no : is = false → R = []
theorem neg1_snoc (l : Int) : ∀ (r : List Int) (S : RS), S.neg1 (r ++ [l]) = if valR l (S.neg1 r).T = 0 then (S.neg1 r).asg (-l) (-1) else S.neg1 r
  | [], S => rfl
  | x :: r, S => by
    show (if valR x S.T = 0 then (S.asg (-x) (-1)).neg1 (r ++ [l]) else S.neg1 (r ++ [l])) = _
    have e : S.neg1 (x :: r) = if valR x S.T = 0 then (S.asg (-x) (-1)).neg1 r else S.neg1 r := rfl
    rw [e]
    by_cases h : valR x S.T = 0
    · rw [if_pos h, if_pos h]; exact neg1_snoc l r _
    · rw [if_neg h, if_neg h]; exact neg1_snoc l r _
theorem unfine_open {S : RS} {c : List Int} (h : fineC c = false) : ¬ OpenS S c := fun ⟨T, t1, t2, _⟩ => by
  unfold fineC at h
  obtain ⟨a, ha, hn⟩ := List.all_eq_false.1 h
  have hn : -a ∈ c := by simpa using hn
  have h1 := t2 a ha
  have h2 := t2 (-a) hn
  rw [Int.neg_neg] at h2
  exact t1.co a h2 h1
theorem fine_co {c : List Int} (h : fineC c = true) : ∀ l ∈ c, -l ∉ c := fun l hl hn => by
  unfold fineC at h
  have := List.all_eq_true.1 h l hl
  simp at this
  exact this hn
theorem whyR_unfine {S : RS} {c : List Int} (h : fineC c = false) : WhyR S c true [] :=
  ⟨⟨fun _ => unfine_open h, fun _ => rfl⟩, by simp, fun j hj => by simp at hj, fun _ T t1 t2 _ => by
    unfold fineC at h
    obtain ⟨a, ha, hn⟩ := List.all_eq_false.1 h
    have hn : -a ∈ c := by simpa using hn
    have h1 := t2 a ha
    have h2 := t2 (-a) hn
    rw [Int.neg_neg] at h2
    exact t1.co a h2 h1, fun h => by cases h⟩
theorem whyR_broken {S : RS} {c : List Int} (h : Set_ S S.cl.length) (hb : S.bk ≠ -1) {k : Nat} (hk : S.bk = (k : Int)) (hf : falR (S.c k) S.T = true) {R : List Nat} (hR : RsP S k R) (hu : R.Pairwise (· < ·)) : WhyR S c true R :=
  ⟨⟨fun _ => why_broken h hb c, fun _ => rfl⟩, hu, fun j hj => ⟨(hR.2 j hj).1, (hR.2 j hj).2.1⟩, fun _ T t1 t2 => core_false h.inv hR hf t1 (fun x hx => by simp at hx), fun h => by cases h⟩
/-- A literal that holds whatever is asked: by which clause. -/
theorem hold_by {S : RS} (h : Set_ S S.cl.length) {l : Int} (hl : lit30 l) (hin : l ∈ S.T) : ∃ (m : Bool) (b : Nat), markF S (vr l) = some (m, (b : Int)) ∧ b < S.cl.length ∧ S.onA b = true ∧ AllIn S b ∧ ∀ c R, l ∈ c → RsP S b R → R.Pairwise (· < ·) → WhyR S c true R := by
  obtain ⟨i, hi, e⟩ := mem_T hin
  have hp := vr_pos hl.1
  have hf := find_T h.inv.con hi (v := vr l) (by rw [e]; unfold vr; omega)
  rcases h.inv.just i hi with ⟨-, h2, -⟩ | ⟨k, k1, k2, k3, -, -⟩
  · have := h.base; omega
  · refine ⟨decide (0 < (S.tr.getD i (0, 0)).1), k, ?_, k2, k3, (just_allIn h.inv hi k1).1, fun c R hc hR hu => ⟨⟨fun _ => why_holds h hc hin, fun _ => rfl⟩, hu, fun j hj => ⟨(hR.2 j hj).1, (hR.2 j hj).2.1⟩, fun _ T t1 t2 => core_holds h.inv hR hi k1 t1 (fun x hx => by simp at hx) (by rw [e]; exact t2 l hc), fun h => by cases h⟩⟩
    unfold markF
    rw [if_neg (by omega), hf, ← k1]; rfl
theorem Ext.cut {S S1 : RS} (h : Ext S S1) (hb : S.base = S.tr.length) : S1.cut = S := by
  obtain ⟨m, hm⟩ := h.tr
  have e : S1.tr.take S1.base = S.tr := by rw [h.base, hm, hb, List.take_left]
  have e2 : S1.cut = ⟨S1.cl, S1.on, S1.tr.take S1.base, S1.base, S1.bk⟩ := rfl
  rw [e2, e, h.cl, h.on, h.base, h.bk]
theorem WhyR.mem {S : RS} {c d : List Int} {is : Bool} {R : List Nat} (h : WhyR S c is R) (he : ∀ y, y ∈ c ↔ y ∈ d) : WhyR S d is R := by
  have ho : OpenS S c ↔ OpenS S d := ⟨fun ⟨T, t1, t2, t3⟩ => ⟨T, t1, fun y hy => t2 y ((he y).2 hy), t3⟩, fun ⟨T, t1, t2, t3⟩ => ⟨T, t1, fun y hy => t2 y ((he y).1 hy), t3⟩⟩
  exact ⟨by rw [← ho]; exact h.yes, h.up, h.on, fun hi T t1 t2 => h.core hi T t1 (fun y hy => t2 y ((he y).1 hy)), h.no⟩
theorem whyR_no {S : RS} {c : List Int} (h : OpenS S c) : WhyR S c false [] :=
  ⟨⟨fun h => (by cases h), fun hn => absurd h hn⟩, by simp, fun j hj => by simp at hj, fun h => (by cases h), fun _ => rfl⟩
theorem whyR_try {S S1 : RS} {c : List Int} (hinv : RInv S1 (c.map fun y => -y)) (hext : Ext S S1) {k : Nat} (hf : falR (S1.c k) S1.T = true) (hno : ¬ OpenS S c) {R : List Nat} (hR : RsP S1 k R) (hu : R.Pairwise (· < ·)) : WhyR S c true R :=
  ⟨⟨fun _ => hno, fun _ => rfl⟩, hu, fun j hj => ⟨by rw [← hext.cl]; exact (hR.2 j hj).1, by rw [← hext.onA]; exact (hR.2 j hj).2.1⟩, fun _ T t1 t2 hcl => core_false hinv hR hf t1 (fun x hx => by
    obtain ⟨y, hy, rfl⟩ := List.mem_map.1 hx
    exact t2 y hy) (fun j hj => by rw [hext.c]; exact hcl j hj), fun h => by cases h⟩
section
variable {w : World} {r : Nat} {S : RS} {K : Nat → Prop} {vl vt : Value} {bt bo bm nt no nm : Nat} {us : List Value} {ho : (Int → Option (Option (Nat × Nat × Nat)))}
/-- What is handed back, and the checker as it was. -/
def WhyE (w : World) (r : Nat) (S : RS) (K : Nat → Prop) (v : Value) (R : List Nat) (w' : World) : Prop :=
  Chg K w w' ∧ CkAt w' r S (fun g => (K g ∨ w.heap.size ≤ g) ∧ v.ownBlock ≠ some g) ∧ Row w' 3 1 v R.length (R.map fun i : Nat => iv (i : Nat)) ∧ ∀ g, v.ownBlock = some g → w.heap.size ≤ g
theorem why_same (h : KP w r S vl vt bt bo bm nt no nm us ho) (hK : ∀ g, KS r bt bo bm vl vt ho g → K g) (hnt : nt ≤ S.cl.length) (hno : no ≤ 1000000 * S.cl.length) {w5 : World} (hb : Below w.heap.size w w5) {v : Value} {R : List Nat}
    (hr : Row w5 3 1 v R.length (R.map fun i : Nat => iv (i : Nat))) (hv : ∀ g, v.ownBlock = some g → w.heap.size ≤ g) : WhyE w r S K v R w5 :=
  ⟨Chg.of_below hb, ⟨vl, vt, bt, bo, bm, nt, no, nm, us, ho, h.below hb, fun g hg => ⟨.inl (hK g hg), fun e => by have := hv g e; have := h.ksLt g hg; omega⟩, hnt, hno⟩, hr, hv⟩
theorem why_fin (h : KP w r S vl vt bt bo bm nt no nm us ho) (hK : ∀ g, KS r bt bo bm vl vt ho g → K g) (hnt : nt ≤ S.cl.length) (hno : no ≤ 1000000 * S.cl.length) {w3 w5 w6 : World} {S1 : RS} {vt1 : Value} {nm1 : Nat}
    (hk3 : KP w3 r S1 vl vt1 bt bo bm nt no nm1 us ho) (hc3 : Chg (fun k => k = r ∨ k = bm ∨ vt.ownBlock = some k) w w3) (ho3 : vt1.ownBlock = vt.ownBlock ∨ ∃ g, vt1.ownBlock = some g ∧ w.heap.size ≤ g) (hb5 : Below w3.heap.size w3 w5) {v : Value} {R : List Nat}
    (hr : Row w5 3 1 v R.length (R.map fun i : Nat => iv (i : Nat))) (hv : ∀ g, v.ownBlock = some g → w3.heap.size ≤ g) (hq : CutQ w5 r S1 vl vt1 bt bo bm nt no nm1 us ho w6) (hcut : S1.cut = S) : WhyE w r S K v R w6 := by
  obtain ⟨vt2, hk6, hc6, ho6⟩ := hq
  rw [hcut] at hk6
  have hrl := hk3.b.lt
  have hml := hk3.m.lt
  have hs3 := hc3.size
  refine ⟨?_, ⟨vl, vt2, bt, bo, bm, nt, no, nm1, us, ho, hk6, fun g hg => ?_, hnt, hno⟩, hr.chg hc6 (fun g hg e => ?_), fun g hg => Nat.le_trans hs3 (hv g hg)⟩
  · refine ((hc3.mono (S' := K) (fun g hg => hK g ?_)).trans (Chg.of_below (S := fun _ => False) hb5) (fun i hi => hi.elim)).trans hc6 (fun g hg => .inl (hK g ?_))
    · rcases hg with e | e | e
      · exact .inl e
      · exact .inr (.inr (.inr (.inl e)))
      · exact .inr (.inr (.inr (.inr (.inr (.inl e)))))
    · rcases hg with e | e
      · exact .inl e
      · exact .inr (.inr (.inr (.inl e)))
  · have hks : KS r bt bo bm vl vt1 ho g := by
      unfold KS at hg ⊢
      rw [ho6] at hg
      exact hg
    have hlt := hk3.ksLt g hks
    refine ⟨?_, fun e => by have := hv g e; omega⟩
    rcases hks with e | e | e | e | e | e | e
    · exact .inl (hK g (.inl e))
    · exact .inl (hK g (.inr (.inl e)))
    · exact .inl (hK g (.inr (.inr (.inl e))))
    · exact .inl (hK g (.inr (.inr (.inr (.inl e)))))
    · exact .inl (hK g (.inr (.inr (.inr (.inr (.inl e))))))
    · rcases ho3 with o | ⟨g', o, hg'⟩
      · rw [o] at e; exact .inl (hK g (.inr (.inr (.inr (.inr (.inr (.inl e)))))))
      · rw [o] at e; injection e with e; exact .inr (by omega)
    · exact .inl (hK g (.inr (.inr (.inr (.inr (.inr (.inr e)))))))
  · have := hv g hg
    rcases e with e | e <;> omega
end
end Go.Proofs.Ytknpfopepedmmaa
