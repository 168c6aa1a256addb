/-
  Package rup: why a clause follows, plainly, and what is left of a checker behind it.
-/
import Derived.Test.YtknpfopepedmmaaRvC
import Derived.Test.YtknpfopepedmmaaRuV
namespace Go.Proofs.Ytknpfopepedmmaa
open Go Go.ChangeShapes Go.WideShapes Go.ChangeAt Go.RowKit Go.Maps
set_option linter.unusedVariables false
set_option linter.unusedSimpArgs false
/-- Whether a clause follows, and of which. -/
structure WhyR0 (S : RS) (c : List Int) (is : Bool) (R : List Nat) : Prop where
  yes : is = true ↔ ¬ OpenS S c
  up : R.Pairwise (· < ·)
  on : ∀ j ∈ R, j < S.cl.length ∧ S.onA j = true
  core : is = true → ∀ T, Con T → (∀ y ∈ c, -y ∈ T) → ¬ ∀ j ∈ R, ClosedC (S.c j) T
  no : is = false → R = []
/-- Of which clauses it follows, just so. -/
structure WhyX (S : RS) (c : List Int) (R : List Nat) : Prop where
  un : fineC c = false → R = []
  bk : fineC c = true → S.bk ≠ -1 → ∃ k : Nat, S.bk = (k : Int) ∧ ∀ x, x ∈ R ↔ Reach S k x
  hd : fineC c = true → S.bk = -1 → ∀ k, k < (normC c).length → (normC c).getD k 0 ∈ S.T → (∀ j, j < k → (normC c).getD j 0 ∉ S.T) → ∃ (m : Bool) (b : Nat), markF S (vr ((normC c).getD k 0)) = some (m, (b : Int)) ∧ ∀ x, x ∈ R ↔ Reach S b x
  tr : fineC c = true → S.bk = -1 → (∀ l ∈ normC c, l ∉ S.T) → ∃ b : Nat, (S.try_ (normC c)).2 = (b : Int) ∧ ∀ x, x ∈ R ↔ Reach (S.try_ (normC c)).1 b x
theorem least {P : Nat → Prop} {n : Nat} : (∃ k, k < n ∧ P k) → ∃ k, k < n ∧ P k ∧ ∀ j, j < k → ¬ P j := by
  rintro ⟨k, hk, hp⟩
  induction k using Nat.strongRecOn with
  | ind k ih =>
    by_cases h : ∃ j, j < k ∧ P j
    · obtain ⟨j, h1, h2⟩ := h
      exact ih j h1 (by omega) h2
    · exact ⟨k, hk, hp, fun j hj hpj => h ⟨j, hj, hpj⟩⟩
theorem WhyX.same {S : RS} {c : List Int} {R R' : List Nat} (h : WhyX S c R) (h' : WhyX S c R') : ∀ x, x ∈ R ↔ x ∈ R' := by
  cases hf : fineC c with
  | false => rw [h.un hf, h'.un hf]; exact fun _ => Iff.rfl
  | true =>
    by_cases hb : S.bk = -1
    · by_cases hl : ∃ k, k < (normC c).length ∧ (normC c).getD k 0 ∈ S.T
      · obtain ⟨k, k1, k2, k3⟩ := least hl
        obtain ⟨m, b, e1, e2⟩ := h.hd hf hb k k1 k2 k3
        obtain ⟨m', b', e1', e2'⟩ := h'.hd hf hb k k1 k2 k3
        rw [e1] at e1'
        injection e1' with e1'
        injection e1' with _ e3
        have e3 : b = b' := Int.ofNat.inj e3
        subst e3
        exact fun x => (e2 x).trans (e2' x).symm
      · have hn : ∀ l ∈ normC c, l ∉ S.T := fun l hl' hin => hl (by
          obtain ⟨i, hi, e⟩ := List.getElem_of_mem hl'
          exact ⟨i, hi, by rw [List.getD_eq_getElem?_getD, List.getElem?_eq_getElem hi]; rw [← e] at hin; exact hin⟩)
        obtain ⟨b, e1, e2⟩ := h.tr hf hb hn
        obtain ⟨b', e1', e2'⟩ := h'.tr hf hb hn
        rw [e1] at e1'
        have e3 : b = b' := Int.ofNat.inj e1'
        subst e3
        exact fun x => (e2 x).trans (e2' x).symm
    · obtain ⟨k, e1, e2⟩ := h.bk hf hb
      obtain ⟨k', e1', e2'⟩ := h'.bk hf hb
      rw [e1] at e1'
      have e3 : k = k' := Int.ofNat.inj e1'
      subst e3
      exact fun x => (e2 x).trans (e2' x).symm
theorem up_same : ∀ {R R' : List Nat}, R.Pairwise (· < ·) → R'.Pairwise (· < ·) → (∀ x, x ∈ R ↔ x ∈ R') → R = R'
  | [], [], _, _, _ => rfl
  | [], b :: s, _, _, h => by have := (h b).2 (by simp); simp at this
  | a :: r, [], _, _, h => by have := (h a).1 (by simp); simp at this
  | a :: r, b :: s, h1, h2, h => by
    rw [List.pairwise_cons] at h1 h2
    have ha := (h a).1 (by simp)
    have hb := (h b).2 (by simp)
    have e : a = b := by
      rcases List.mem_cons.1 ha with e | ha
      · exact e
      · rcases List.mem_cons.1 hb with e | hb
        · exact e.symm
        · have := h1.1 b hb; have := h2.1 a ha; omega
    subst e
    rw [up_same h1.2 h2.2 fun x => ⟨fun hx => by
      rcases List.mem_cons.1 ((h x).1 (List.mem_cons_of_mem _ hx)) with e | hx'
      · have := h1.1 x hx; omega
      · exact hx', fun hx => by
      rcases List.mem_cons.1 ((h x).2 (List.mem_cons_of_mem _ hx)) with e | hx'
      · have := h2.1 x hx; omega
      · exact hx'⟩]
structure WhyR (S : RS) (c : List Int) (is : Bool) (R : List Nat) : Prop extends WhyR0 S c is R where
  ex : is = true → WhyX S c R
theorem WhyR.same {S : RS} {c : List Int} {is is' : Bool} {R R' : List Nat} (h : WhyR S c is R) (h' : WhyR S c is' R') : is = is' ∧ R = R' := by
  have hi : is = is' := by
    rw [Bool.eq_iff_iff, h.yes, h'.yes]
  subst hi
  refine ⟨rfl, ?_⟩
  cases is with
  | false => rw [h.no rfl, h'.no rfl]
  | true => exact up_same h.up h'.up ((h.ex rfl).same (h'.ex rfl))
theorem neg1_snoc (l : Int) : ∀ (r : List Int) (S : RS), S.neg1 (r ++ [l]) = if valR l (S.neg1 r).T = 0 then (S.neg1 r).asg (-l) (-1) else S.neg1 r
  | [], S => rfl
  | x :: r, S => by
    show (if valR x S.T = 0 then (S.asg (-x) (-1)).neg1 (r ++ [l]) else S.neg1 (r ++ [l])) = _
    have e : S.neg1 (x :: r) = if valR x S.T = 0 then (S.asg (-x) (-1)).neg1 r else S.neg1 r := rfl
    rw [e]
    by_cases h : valR x S.T = 0
    · rw [if_pos h, if_pos h]; exact neg1_snoc l r _
    · rw [if_neg h, if_neg h]; exact neg1_snoc l r _
theorem unfine_open {S : RS} {c : List Int} (h : fineC c = false) : ¬ OpenS S c := fun ⟨T, t1, t2, _⟩ => by
  unfold fineC at h
  obtain ⟨a, ha, hn⟩ := List.all_eq_false.1 h
  have hn : -a ∈ c := by simpa using hn
  have h1 := t2 a ha
  have h2 := t2 (-a) hn
  rw [Int.neg_neg] at h2
  exact t1.co a h2 h1
theorem fine_co {c : List Int} (h : fineC c = true) : ∀ l ∈ c, -l ∉ c := fun l hl hn => by
  unfold fineC at h
  have := List.all_eq_true.1 h l hl
  simp at this
  exact this hn
theorem whyR_unfine {S : RS} {c : List Int} (h : fineC c = false) : WhyR0 S c true [] :=
  ⟨⟨fun _ => unfine_open h, fun _ => rfl⟩, by simp, fun j hj => by simp at hj, fun _ T t1 t2 _ => by
    unfold fineC at h
    obtain ⟨a, ha, hn⟩ := List.all_eq_false.1 h
    have hn : -a ∈ c := by simpa using hn
    have h1 := t2 a ha
    have h2 := t2 (-a) hn
    rw [Int.neg_neg] at h2
    exact t1.co a h2 h1, fun h => by cases h⟩
theorem whyR_broken {S : RS} {c : List Int} (h : Set_ S S.cl.length) (hb : S.bk ≠ -1) {k : Nat} (hk : S.bk = (k : Int)) (hf : falR (S.c k) S.T = true) {R : List Nat} (hR : RsP S k R) (hu : R.Pairwise (· < ·)) : WhyR0 S c true R :=
  ⟨⟨fun _ => why_broken h hb c, fun _ => rfl⟩, hu, fun j hj => ⟨(hR.2 j hj).1, (hR.2 j hj).2.1⟩, fun _ T t1 t2 => core_false h.inv hR hf t1 (fun x hx => by simp at hx), fun h => by cases h⟩
/-- A literal that holds whatever is asked: by which clause. -/
theorem hold_by {S : RS} (h : Set_ S S.cl.length) {l : Int} (hl : lit30 l) (hin : l ∈ S.T) : ∃ (m : Bool) (b : Nat), markF S (vr l) = some (m, (b : Int)) ∧ b < S.cl.length ∧ S.onA b = true ∧ AllIn S b ∧ ∀ c R, l ∈ c → RsP S b R → R.Pairwise (· < ·) → WhyR0 S c true R := by
  obtain ⟨i, hi, e⟩ := mem_T hin
  have hp := vr_pos hl.1
  have hf := find_T h.inv.con hi (v := vr l) (by rw [e]; unfold vr; omega)
  rcases h.inv.just i hi with ⟨-, h2, -⟩ | ⟨k, k1, k2, k3, -, -⟩
  · have := h.base; omega
  · refine ⟨decide (0 < (S.tr.getD i (0, 0)).1), k, ?_, k2, k3, (just_allIn h.inv hi k1).1, fun c R hc hR hu => ⟨⟨fun _ => why_holds h hc hin, fun _ => rfl⟩, hu, fun j hj => ⟨(hR.2 j hj).1, (hR.2 j hj).2.1⟩, fun _ T t1 t2 => core_holds h.inv hR hi k1 t1 (fun x hx => by simp at hx) (by rw [e]; exact t2 l hc), fun h => by cases h⟩⟩
    unfold markF
    rw [if_neg (by omega), hf, ← k1]; rfl
theorem Ext.cut {S S1 : RS} (h : Ext S S1) (hb : S.base = S.tr.length) : S1.cut = S := by
  obtain ⟨m, hm⟩ := h.tr
  have e : S1.tr.take S1.base = S.tr := by rw [h.base, hm, hb, List.take_left]
  have e2 : S1.cut = ⟨S1.cl, S1.on, S1.tr.take S1.base, S1.base, S1.bk⟩ := rfl
  rw [e2, e, h.cl, h.on, h.base, h.bk]
theorem WhyR0.mem {S : RS} {c d : List Int} {is : Bool} {R : List Nat} (h : WhyR0 S c is R) (he : ∀ y, y ∈ c ↔ y ∈ d) : WhyR0 S d is R := by
  have ho : OpenS S c ↔ OpenS S d := ⟨fun ⟨T, t1, t2, t3⟩ => ⟨T, t1, fun y hy => t2 y ((he y).2 hy), t3⟩, fun ⟨T, t1, t2, t3⟩ => ⟨T, t1, fun y hy => t2 y ((he y).1 hy), t3⟩⟩
  exact ⟨by rw [← ho]; exact h.yes, h.up, h.on, fun hi T t1 t2 => h.core hi T t1 (fun y hy => t2 y ((he y).1 hy)), h.no⟩
theorem whyR_no {S : RS} {c : List Int} (h : OpenS S c) : WhyR0 S c false [] :=
  ⟨⟨fun h => (by cases h), fun hn => absurd h hn⟩, by simp, fun j hj => by simp at hj, fun h => (by cases h), fun _ => rfl⟩
theorem whyR_try {S S1 : RS} {c : List Int} (hinv : RInv S1 (c.map fun y => -y)) (hext : Ext S S1) {k : Nat} (hf : falR (S1.c k) S1.T = true) (hno : ¬ OpenS S c) {R : List Nat} (hR : RsP S1 k R) (hu : R.Pairwise (· < ·)) : WhyR0 S c true R :=
  ⟨⟨fun _ => hno, fun _ => rfl⟩, hu, fun j hj => ⟨by rw [← hext.cl]; exact (hR.2 j hj).1, by rw [← hext.onA]; exact (hR.2 j hj).2.1⟩, fun _ T t1 t2 hcl => core_false hinv hR hf t1 (fun x hx => by
    obtain ⟨y, hy, rfl⟩ := List.mem_map.1 hx
    exact t2 y hy) (fun j hj => by rw [hext.c]; exact hcl j hj), fun h => by cases h⟩
section
variable {w : World} {r : Nat} {S : RS} {K : Nat → Prop} {vl vt : Value} {bt bo bm nt no nm : Nat} {us : List Value} {ho : (Int → Option (Option (Nat × Nat × Nat)))}
/-- What is handed back, and the checker as it was. -/
def WhyE (w : World) (r : Nat) (S : RS) (K : Nat → Prop) (v : Value) (R : List Nat) (w' : World) : Prop :=
  Chg K w w' ∧ CkAt w' r S (fun g => (K g ∨ w.heap.size ≤ g) ∧ v.ownBlock ≠ some g) ∧ Row w' 3 1 v R.length (R.map fun i : Nat => iv (i : Nat)) ∧ ∀ g, v.ownBlock = some g → w.heap.size ≤ g
theorem why_same (h : KP w r S vl vt bt bo bm nt no nm us ho) (hK : ∀ g, KS r bt bo bm vl vt ho g → K g) (hnt : nt ≤ S.cl.length) (hno : no ≤ 1000000 * S.cl.length ∧ ∀ u ∈ us, ∀ g, u.ownBlock = some g → K g) {w5 : World} (hb : Below w.heap.size w w5) {v : Value} {R : List Nat}
    (hr : Row w5 3 1 v R.length (R.map fun i : Nat => iv (i : Nat))) (hv : ∀ g, v.ownBlock = some g → w.heap.size ≤ g) : WhyE w r S K v R w5 :=
  ⟨Chg.of_below hb, ⟨vl, vt, bt, bo, bm, nt, no, nm, us, ho, h.below hb, fun g hg => ⟨.inl (hK g hg), fun e => by have := hv g e; have := h.ksLt g hg; omega⟩, hnt, hno.1, fun u hu g hg => ⟨.inl (hno.2 u hu g hg), fun e => by have := hv g e; have := h.usLt u hu g hg; omega⟩⟩, hr, hv⟩
theorem why_fin (h : KP w r S vl vt bt bo bm nt no nm us ho) (hK : ∀ g, KS r bt bo bm vl vt ho g → K g) (hnt : nt ≤ S.cl.length) (hno : no ≤ 1000000 * S.cl.length ∧ ∀ u ∈ us, ∀ g, u.ownBlock = some g → K g) {w3 w5 w6 : World} {S1 : RS} {vt1 : Value} {nm1 : Nat}
    (hk3 : KP w3 r S1 vl vt1 bt bo bm nt no nm1 us ho) (hc3 : Chg (fun k => k = r ∨ k = bm ∨ vt.ownBlock = some k) w w3) (ho3 : vt1.ownBlock = vt.ownBlock ∨ ∃ g, vt1.ownBlock = some g ∧ w.heap.size ≤ g) (hb5 : Below w3.heap.size w3 w5) {v : Value} {R : List Nat}
    (hr : Row w5 3 1 v R.length (R.map fun i : Nat => iv (i : Nat))) (hv : ∀ g, v.ownBlock = some g → w3.heap.size ≤ g) (hq : CutQ w5 r S1 vl vt1 bt bo bm nt no nm1 us ho w6) (hcut : S1.cut = S) : WhyE w r S K v R w6 := by
  obtain ⟨vt2, hk6, hc6, ho6⟩ := hq
  rw [hcut] at hk6
  have hrl := hk3.b.lt
  have hml := hk3.m.lt
  have hs3 := hc3.size
  refine ⟨?_, ⟨vl, vt2, bt, bo, bm, nt, no, nm1, us, ho, hk6, fun g hg => ?_, hnt, hno.1, fun u hu g hg => ⟨.inl (hno.2 u hu g hg), fun e => by have := hv g e; have := h.usLt u hu g hg; omega⟩⟩, hr.chg hc6 (fun g hg e => ?_), fun g hg => Nat.le_trans hs3 (hv g hg)⟩
  · refine ((hc3.mono (S' := K) (fun g hg => hK g ?_)).trans (Chg.of_below (S := fun _ => False) hb5) (fun i hi => hi.elim)).trans hc6 (fun g hg => .inl (hK g ?_))
    · rcases hg with e | e | e
      · exact .inl e
      · exact .inr (.inr (.inr (.inl e)))
      · exact .inr (.inr (.inr (.inr (.inr (.inl e)))))
    · rcases hg with e | e
      · exact .inl e
      · exact .inr (.inr (.inr (.inl e)))
  · have hks : KS r bt bo bm vl vt1 ho g := by
      unfold KS at hg ⊢
      rw [ho6] at hg
      exact hg
    have hlt := hk3.ksLt g hks
    refine ⟨?_, fun e => by have := hv g e; omega⟩
    rcases hks with e | e | e | e | e | e | e
    · exact .inl (hK g (.inl e))
    · exact .inl (hK g (.inr (.inl e)))
    · exact .inl (hK g (.inr (.inr (.inl e))))
    · exact .inl (hK g (.inr (.inr (.inr (.inl e)))))
    · exact .inl (hK g (.inr (.inr (.inr (.inr (.inl e))))))
    · rcases ho3 with o | ⟨g', o, hg'⟩
      · rw [o] at e; exact .inl (hK g (.inr (.inr (.inr (.inr (.inr (.inl e)))))))
      · rw [o] at e; injection e with e; exact .inr (by omega)
    · exact .inl (hK g (.inr (.inr (.inr (.inr (.inr (.inr e)))))))
  · have := hv g hg
    rcases e with e | e <;> omega
end
end Go.Proofs.Ytknpfopepedmmaa
/-
  Package rup: Why, walked.
-/
namespace Go.Proofs.Ytknpfopepedmmaa
open Go Go.ChangeShapes Go.WideShapes Go.ChangeAt Go.RowKit Go.Maps
set_option linter.unusedVariables false
set_option linter.unusedSimpArgs false
/-- What Why answers. -/
def WhyQ (w : World) (r : Nat) (S : RS) (K : Nat → Prop) (c : List Int) (e : Ending) (w' : World) : Prop :=
  ∃ (v : Value) (is : Bool) (R : List Nat), e = .returned (.tuple #[v, .bool is]) ∧ WhyR S c is R ∧ WhyE w r S K v R w'
section
variable {w : World} {r : Nat} {S : RS} {K : Nat → Prop}
set_option maxHeartbeats 8000000 in
set_option maxRecDepth 100000 in
theorem why_ (h : CkAt w r S K) (hS : Set_ S S.cl.length) (hcl : S.cl.length ≤ 1000000) {u : Value} {c : List Int} (hu : Ints w u c) (hc : ClauseL c) (h30 : Lit30s c) (hlen : c.length ≤ 1000000) :
    Calls Try.prog 17 #[kp r, u] w (WhyQ w r S K c) := by
  obtain ⟨vl, vt, bt, bo, bm, nt, no, nm, us, ho, hk, hK, hnt, hno⟩ := h
  have hfl := fld1
  obtain ⟨n, hn⟩ : ∃ n, n = normC c := ⟨_, rfl⟩
  have HNM := Lib.hid (cl_Norm hu hc hlen)
  have hn30 : Lit30s n := fun x hx => h30 x (by rw [hn] at hx; exact (mem_normC c x).1 hx)
  have HMEM : Hid (∀ y, y ∈ n ↔ y ∈ c) := Lib.hid fun y => by rw [hn]; exact mem_normC c y
  obtain ⟨fn, hfn⟩ : ∃ fn, fn = fineC c := ⟨_, rfl⟩
  have HFN : Hid (fn = fineC n) := Lib.hid (by rw [hfn]; exact fineC_mem (fun y => (HMEM.out y).symm))
  rw [← hfn] at HNM
  have HFC := Lib.hid hfn
  obtain ⟨a, cu, hun, -⟩ : ∃ a cu, u = .slice a c.length cu ∧ True := by
    obtain ⟨a, cu, e, -⟩ := hu
    exact ⟨a, cu, e, trivial⟩
  have HKP := Lib.hid hk
  have HKK := Lib.hid hK
  have HSS := Lib.hid hS
  have HNT := Lib.hid hnt
  have HNO := Lib.hid hno
  have HN30 := Lib.hid hn30
  have HN := Lib.hid hn
  have HCL := Lib.hid hcl
  obtain ⟨nc, hnc⟩ : ∃ nc, nc = c.length := ⟨_, rfl⟩
  rw [hun, ← hnc] at HNM
  rw [hun, ← hnc]
  clear hk hK hS hnt hno hn30 hu hc h30 hlen hcl hn hun hnc hfn
  go_enter_defers Try.func17, Try.ntmps17
  go_wp2_with fail
  refine HNM.out.mono ?_
  rintro e w1 ⟨u1, rfl, hown⟩
  have hown' : OwnI w w1 u1 n := by rw [HN.out]; exact hown
  obtain ⟨a1, cap1, hu1, -, -⟩ : ∃ a cap, u1 = .slice a n.length cap ∧ True ∧ True := by
    obtain ⟨a, cap, e, -⟩ := hown'.1.ints
    exact ⟨a, cap, e, trivial, trivial⟩
  have HOWN := Lib.hid hown'
  have hk1 := HKP.out.below hown'.2.1
  have HK1 := Lib.hid hk1
  obtain ⟨q, hq⟩ : ∃ q, q = n.length := ⟨_, rfl⟩
  have HQN := Lib.hid hq
  rw [← hq] at hu1
  subst hu1
  cases fn with
  | false =>
    have HF : Hid (WhyR S c true [] ∧ WhyE w r S K (.slice none 0 0) [] w1) := Lib.hid ⟨⟨(whyR_unfine HFN.out.symm).mem HMEM.out, fun _ => ⟨fun _ => rfl, fun h => (by rw [← HFC.out] at h; cases h), fun h => (by rw [← HFC.out] at h; cases h), fun h => (by rw [← HFC.out] at h; cases h)⟩⟩, why_same HKP.out HKK.out HNT.out HNO.out hown'.2.1 (World.ownsRow_nil _ _ _ _) (fun g hg => by simp [Value.ownBlock] at hg)⟩
    clear hown hown' hk1 hq
    go_wp2
    refine ⟨_, results_tmp2 rfl _ _ _, ?_⟩
    exact ⟨.slice none 0 0, true, [], rfl, HF.out.1, HF.out.2⟩
  | true =>
    have c6 : w1.cell? ⟨r, 6, none⟩ = some (.int .i64 S.bk) := hk1.b.cell 6
    by_cases hb : S.bk = -1
    · have HB := Lib.hid hb
      have hbb : ((-1 : Int) != -1) = false := rfl
      rw [hb] at c6
      have hq9 : q ≤ 9223372036854775807 := by
        obtain ⟨a, c, -, -, h1, h2, -⟩ := hown'.1.ints
        rw [hq]; exact Nat.le_trans h1 h2
      have HIN : Hid (∀ W, Chg (fun k => k = r ∨ k = bm ∨ vt.ownBlock = some k) w1 W → ∀ k, k < q → ∃ bb off, a1 = some ⟨bb, off, none⟩ ∧ W.cell? ⟨bb, off + k, none⟩ = some (.int .i64 (n.getD k 0))) := Lib.hid fun W hW k hkq => by
        have hI : Ints W (.slice a1 q cap1) n := (HQN.out ▸ HOWN.out.1.ints : Ints w1 (.slice a1 q cap1) n).chg hW (fun g hg e => by
          have h1 := HOWN.out.2.2 g hg
          have h2 := HKP.out.b.lt
          have h3 := HKP.out.m.lt
          rcases e with e | e | e
          · omega
          · omega
          · have := HKP.out.tr.lt g e; omega)
        obtain ⟨a, cap, e, -, -, -, h3⟩ := hI
        injection e with e1 e2 e3
        have hkn : k < n.length := by rw [← HQN.out]; exact hkq
        obtain ⟨b, off, h4, h5⟩ := h3.resolve_left (fun e => by rw [e] at hkn; simp at hkn)
        exact ⟨b, off, by rw [e1, h4], h5 k hkn⟩
      have HLIT : Hid (∀ k, k < q → lit30 (n.getD k 0) ∧ n.getD k 0 ∈ n) := Lib.hid fun k hkq => by
        have hkn : k < n.length := by rw [← HQN.out]; exact hkq
        have : n.getD k 0 ∈ n := by rw [List.getD_eq_getElem?_getD, List.getElem?_eq_getElem hkn]; exact List.getElem_mem hkn
        exact ⟨HN30.out _ this, this⟩
      clear hown hown' hk1 hq hb
      go_wp2
      go_loopw [38] (fun i wr => ∃ k : Nat, k ≤ q ∧ i = .int .i64 (k : Nat) ∧ (∀ j, j < k → n.getD j 0 ∉ S.T) ∧ Below w1.heap.size w1 wr) (fun i _ => q - (intOf i).toNat)
      case atStart => exact ⟨0, Nat.zero_le _, rfl, fun j hj => absurd hj (by omega), Below.refl _ _⟩
      case round =>
        obtain ⟨k, hk, rfl, hno, hbw⟩ := hrel
        have HNO2 := Lib.hid hno
        have HBW := Lib.hid hbw
        clear hno
        by_cases hlt : (k : Int) < (q : Int)
        · have hkq : k < q := by omega
          obtain ⟨bb, off, hab, q1⟩ := HIN.out wr (Chg.of_below hbw) k hkq
          obtain ⟨hl30, hlm⟩ := HLIT.out k hkq
          obtain ⟨l, hl⟩ : ∃ l, l = n.getD k 0 := ⟨_, rfl⟩
          rw [← hl] at q1 hl30 hlm
          have HL := Lib.hid hl
          have HL30 := Lib.hid hl30
          have HLM := Lib.hid hlm
          have hkw := HK1.out.below hbw
          have HV := Lib.hid (value_ hkw HSS.out.inv.con hl30)
          obtain ⟨vv, hvv⟩ : ∃ vv, vv = valR l S.T := ⟨_, rfl⟩
          rw [← hvv] at HV
          have HVV := Lib.hid hvv
          subst hab
          by_cases hin : l ∈ S.T
          · have h1 : vv = 1 := by rw [hvv]; exact val_pos hin
            subst h1
            obtain ⟨mh, b, hmk, b1, b2, b3, b4⟩ := hold_by HSS.out hl30 hin
            have HIN2 := Lib.hid hin
            have HB4 := Lib.hid b4
            have HB1 := Lib.hid b1
            have HB2 := Lib.hid b2
            have HB3 := Lib.hid b3
            have HMK := Lib.hid hmk
            have hw : IntKind.i64.wrap (-l) = -l := IntWalk.i64_in _ (by obtain ⟨a, b, c⟩ := hl30; omega)
            have hmx : (if l < -l then -l else l) = vr l := by unfold vr; split <;> omega
            have hmx2 : max l (-l) = vr l := rfl
            clear hkw hvv hin b1 b2 b3 b4 hmk hl30 hlm hl hbw hkq
            go_wp2_with fail
            refine HV.out.mono ?_
            rintro e w3 ⟨rfl, hb3⟩
            have hk3 := HK1.out.below (HBW.out.trans (hb3.mono HBW.out.size))
            have q3 : w3.cell? ⟨r, 3, none⟩ = some (.map (some bm)) := hk3.b.cell 3
            have hlk := hk3.m.look tmM HL30.out.in64
            rw [HMK.out] at hlk
            replace hlk : (Instr.lookup 70 (.map (some bm)) (.int .i64 (vr l)) false).run Try.prog w3 = .ok (.agg #[.bool mh, .int .i64 (b : Nat)]) w3 := hlk
            have HRE := Lib.hid (reasons_ hk3 HSS.out.inv HCL.out HB1.out HB2.out HB3.out)
            have HB3w := Lib.hid (HBW.out.trans (hb3.mono HBW.out.size))
            clear hk3 hb3
            go_wp2_with fail
            refine HRE.out.mono ?_
            rintro e w4 ⟨v, R, rfl, hrow, hvo, hup, hR, hb4⟩
            have HW : Hid (WhyR S c true R) := Lib.hid ⟨(HB4.out n R HLM.out hR.1 hup).mem HMEM.out, fun _ => ⟨fun h => (by rw [← HFC.out] at h; cases h), fun _ h => absurd HB.out h, fun _ _ k' k1 k2 k3 => by
              rw [← HN.out] at k1 k2 k3 ⊢
              have e : k' = k := by
                rcases Nat.lt_trichotomy k' k with h | h | h
                · exact absurd k2 (HNO2.out k' h)
                · exact h
                · exact absurd HIN2.out (by rw [HL.out]; exact k3 k h)
              rw [e, ← HL.out]
              exact ⟨_, _, HMK.out, hR.all⟩, fun _ _ h => absurd HIN2.out (h l (by rw [← HN.out]; exact HLM.out))⟩⟩
            have hk4 := Lib.hid ((HK1.out.below HB3w.out).below hb4)
            have HROW := Lib.hid hrow
            have HVO := Lib.hid hvo
            have HB4w := Lib.hid hb4
            clear hrow hvo hup hR hb4
            go_wp2
            refine leaves_cons (f := 48) (args := #[kp r]) (by simp) (by simp [go_sem]) ?_
            refine (undo_ hk4.out HSS.out.inv.con (by have := HSS.out.base; omega) .returning).mono ?_
            rintro e u' w'' ⟨rfl, rfl, hq⟩
            exact ⟨_, results_tmp2 rfl _ _ _, ⟨v, true, R, rfl, HW.out, why_fin HKP.out HKK.out HNT.out HNO.out (HK1.out.below HB3w.out) (Chg.of_below (HOWN.out.2.1.trans (HB3w.out.mono HOWN.out.2.1.size))) (.inl rfl) HB4w.out HROW.out HVO.out hq ((Ext.refl S).cut HSS.out.base)⟩⟩
          · have h0 : ¬ (0 < vv) := by
              rw [hvv]
              rcases valR_cases l S.T with e | e | e
              · exact absurd (val_1 e) hin
              · omega
              · omega
            have HREL : Hid (∀ j, j < k + 1 → n.getD j 0 ∉ S.T) := Lib.hid fun j hj => by
              by_cases e : j = k
              · rw [e, ← HL.out]; exact hin
              · exact HNO2.out j (by omega)
            clear hkw hvv hin hl30 hlm hl hbw hkq
            go_wp2_with fail
            refine HV.out.mono ?_
            rintro e w3 ⟨rfl, hb3⟩
            have HB3w := Lib.hid (HBW.out.trans (hb3.mono HBW.out.size))
            clear hb3
            go_wp2
            go_roundw
            case rel => exact ⟨k + 1, by omega, by go_num, HREL.out, HB3w.out⟩
            case measure => simp [intOf]; omega
        · have hkq : k = q := by omega
          have HNT2 : Hid (∀ l ∈ n, l ∉ S.T) := Lib.hid fun l hl => by
            obtain ⟨i, hi, e⟩ := List.getElem_of_mem hl
            have := HNO2.out i (by rw [hkq, HQN.out]; exact hi)
            rw [List.getD_eq_getElem?_getD, List.getElem?_eq_getElem hi] at this
            rw [← e]; exact this
          have HCO : Hid (∀ l ∈ n, -l ∉ n) := Lib.hid (fine_co HFN.out.symm)
          have HA0 : Hid (AsgQ w1 r (S.neg1 (n.take 0)) vl vt bt bo bm nt no us ho wr) := Lib.hid ⟨vt, nm, HK1.out.below hbw, Chg.of_below hbw, .inl rfl⟩
          have HINV : Hid (∀ k, RInv (S.neg1 (n.take k)) (n.map fun y => -y) ∧ Ext S (S.neg1 (n.take k))) := Lib.hid fun k => by
            have hinv : RInv S (n.map fun y => -y) := ⟨HSS.out.inv.con, HSS.out.inv.len, HSS.out.inv.c0, HSS.out.inv.base, fun i hi => by
              rcases HSS.out.inv.just i hi with ⟨-, -, h3⟩ | h3
              · simp at h3
              · exact .inr h3⟩
            obtain ⟨n1, n2, -⟩ := neg1_law (n.take k) S hinv (fun l hl => ⟨HN30.out l (List.mem_of_mem_take hl), List.mem_map.2 ⟨l, List.mem_of_mem_take hl, rfl⟩, HNT2.out l (List.mem_of_mem_take hl)⟩) (fun l hl hn => HCO.out l (List.mem_of_mem_take hl) (List.mem_of_mem_take hn))
            exact ⟨n1, n2⟩
          clear hbw hkq
          go_wp2
          go_loopw [61] (fun i wy => ∃ k : Nat, k ≤ q ∧ i = .int .i64 (k : Nat) ∧ AsgQ w1 r (S.neg1 (n.take k)) vl vt bt bo bm nt no us ho wy) (fun i _ => q - (intOf i).toNat)
          case atStart => exact ⟨0, Nat.zero_le _, rfl, HA0.out⟩
          case round =>
            obtain ⟨k, hk, rfl, vt2, nm2, hk2, hc2, ho2⟩ := hrel
            have HK2 := Lib.hid hk2
            have HC2 := Lib.hid hc2
            have HO2 := Lib.hid ho2
            by_cases hlt : (k : Int) < (q : Int)
            · have hkq : k < q := by omega
              obtain ⟨bb, off, hab, q1⟩ := HIN.out wr hc2 k hkq
              obtain ⟨hl30, hlm⟩ := HLIT.out k hkq
              obtain ⟨l, hl⟩ : ∃ l, l = n.getD k 0 := ⟨_, rfl⟩
              rw [← hl] at q1 hl30 hlm
              have hkn : k < n.length := by rw [← HQN.out]; exact hkq
              have hs : n.take (k + 1) = n.take k ++ [l] := by
                rw [List.take_succ_eq_append_getElem hkn, hl, List.getD_eq_getElem?_getD, List.getElem?_eq_getElem hkn]; rfl
              have hnx := neg1_snoc l (n.take k) S
              rw [← hs] at hnx
              obtain ⟨hX, hXe⟩ := HINV.out k
              have HL30 := Lib.hid hl30
              have HV := Lib.hid (value_ hk2 hX.con hl30)
              have HXX := Lib.hid hX
              have HNX := Lib.hid hnx
              obtain ⟨vv, hvv⟩ : ∃ vv, vv = valR l (S.neg1 (n.take k)).T := ⟨_, rfl⟩
              rw [← hvv] at HV
              have HVV := Lib.hid hvv
              subst hab
              by_cases h0 : vv = 0
              · subst h0
                have HB9 : Hid (lit30 (-l)) := Lib.hid (by obtain ⟨a, b, c⟩ := hl30; exact ⟨by omega, by omega, by omega⟩)
                have HV9 : Hid (valR (-l) (S.neg1 (n.take k)).T = 0) := Lib.hid (by
                  obtain ⟨a, b⟩ := val_0 hvv.symm
                  exact val_zero b (by rw [Int.neg_neg]; exact a))
                have hw : IntKind.i64.wrap (-l) = -l := IntWalk.i64_in _ (by obtain ⟨a, b, c⟩ := hl30; omega)
                clear hk2 hc2 ho2 hkq hl30 hlm hl hkn hs hnx hX hXe hvv
                go_wp2_with fail
                refine HV.out.mono ?_
                rintro e w3 ⟨rfl, hb3⟩
                have HAS := Lib.hid (assign_ (HK2.out.below hb3) HXX.out.con (l := -l) (b := -1) HB9.out HV9.out)
                have HB3 := Lib.hid hb3
                clear hb3
                go_wp2_with fail
                refine HAS.out.mono ?_
                rintro e w4 ⟨rfl, hq4⟩
                have HA : Hid (AsgQ w1 r (S.neg1 (n.take (k + 1))) vl vt bt bo bm nt no us ho w4) := Lib.hid (by
                  rw [HNX.out, if_pos HVV.out.symm]
                  exact AsgQ.trans (HK2.out.below HB3.out) (HC2.out.trans (Chg.of_below (S := fun _ => False) HB3.out) (fun i hi => hi.elim)) HO2.out hq4)
                clear hq4
                go_wp2
                go_roundw
                case rel => exact ⟨k + 1, by omega, by go_num, HA.out⟩
                case measure => simp [intOf]; omega
              · have hvz : (vv == 0) = false := by rw [beq_eq_false_iff_ne]; exact h0
                have H00 := Lib.hid h0
                clear hk2 hc2 ho2 hkq hl30 hlm hl hkn hs hnx hX hXe hvv h0
                go_wp2_with fail
                refine HV.out.mono ?_
                rintro e w3 ⟨rfl, hb3⟩
                have HA : Hid (AsgQ w1 r (S.neg1 (n.take (k + 1))) vl vt bt bo bm nt no us ho w3) := Lib.hid (by
                  rw [HNX.out, if_neg (by rw [← HVV.out]; exact H00.out)]
                  exact ⟨vt2, nm2, HK2.out.below hb3, HC2.out.trans (Chg.of_below (S := fun _ => False) hb3) (fun i hi => hi.elim), HO2.out⟩)
                clear hb3
                go_wp2
                go_roundw
                case rel => exact ⟨k + 1, by omega, by go_num, HA.out⟩
                case measure => simp [intOf]; omega
            · have hkq : k = q := by omega
              obtain ⟨X, hX⟩ : ∃ X, X = S.neg1 n := ⟨_, rfl⟩
              have e1 : S.neg1 (n.take k) = X := by rw [hX, hkq, HQN.out, List.take_length]
              rw [e1] at hk2
              have hi := HINV.out k
              rw [e1] at hi
              have hbx : X.base = S.base := hi.2.base
              have q5 : wr.cell? ⟨r, 5, none⟩ = some (.int .i64 (X.base : Nat)) := hk2.b.cell 5
              have HSP := Lib.hid (spread_ hk2 hi.1 (by rw [hi.2.cl]; exact HCL.out) hi.1.base (f := fuel) (by unfold fuel; omega))
              have HTR : Hid (S.try_ n = RS.spread fuel X X.base) := Lib.hid (show RS.spread fuel (S.neg1 n) S.base = RS.spread fuel X X.base from by
                rw [hbx, hX])
              have htry := try_law HSS.out HB.out HN30.out HCO.out HNT2.out
              have etry : S.try_ n = RS.spread fuel X X.base := by unfold RS.try_; rw [hX] at hbx ⊢; rw [hbx]
              rw [etry] at htry
              obtain ⟨Z, hZ⟩ : ∃ Z, Z = RS.spread fuel X X.base := ⟨_, rfl⟩
              rw [← hZ] at htry HSP HTR
              have HTRY := Lib.hid htry
              have HK3 := Lib.hid hk2
              obtain ⟨xb, hxb⟩ : ∃ xb, xb = X.base := ⟨_, rfl⟩
              rw [← hxb] at q5 HSP
              obtain ⟨Zs, zid⟩ := Z
              clear hk2 hc2 ho2 hkq hX e1 hi hbx htry etry hZ hxb
              go_wp2_with fail
              refine HSP.out.mono ?_
              rintro e w4 ⟨rfl, hq4⟩
              obtain ⟨vt4, nm4, hk4, hc4, ho4⟩ := AsgQ.trans HK3.out HC2.out HO2.out hq4
              obtain ⟨t1, t2, t3⟩ := HTRY.out
              have HK4 := Lib.hid hk4
              have HC4 : Hid (Chg (fun k => k = r ∨ k = bm ∨ vt.ownBlock = some k) w w4) := Lib.hid ((Chg.of_below (S := fun _ => False) HOWN.out.2.1).mono (S' := fun k => k = r ∨ k = bm ∨ vt.ownBlock = some k) (fun i hi => hi.elim) |>.trans hc4 (fun i hi => .inl hi))
              have HO4 : Hid (vt4.ownBlock = vt.ownBlock ∨ ∃ g, vt4.ownBlock = some g ∧ w.heap.size ≤ g) := Lib.hid (by
                rcases ho4 with o | ⟨g, o, hg⟩
                · exact .inl o
                · exact .inr ⟨g, o, Nat.le_trans HOWN.out.2.1.size hg⟩)
              have HT1 := Lib.hid t1
              have HT2 := Lib.hid t2
              rcases t3 with ⟨t3, t4⟩ | ⟨⟨b, t3, b1, b2, b3⟩, t4⟩
              · have t3 : zid = -1 := t3
                subst t3
                have HW : Hid (WhyR S c false []) := Lib.hid ⟨(whyR_no t4).mem HMEM.out, fun h => by cases h⟩
                clear hk4 hc4 ho4 t1 t2 t4 hq4
                go_wp2
                refine leaves_cons (f := 48) (args := #[kp r]) (by simp) (by simp [go_sem]) ?_
                refine (undo_ HK4.out HT1.out.con HT1.out.base .returning).mono ?_
                rintro e u' w'' ⟨rfl, rfl, hq⟩
                exact ⟨_, results_tmp2 rfl _ _ _, ⟨.slice none 0 0, false, [], rfl, HW.out, why_fin HKP.out HKK.out HNT.out HNO.out HK4.out HC4.out HO4.out (Below.refl _ _) (World.ownsRow_nil _ _ _ _) (fun g hg => by simp [Value.ownBlock] at hg) hq (HT2.out.cut HSS.out.base)⟩⟩
              · have t3 : zid = (b : Int) := t3
                subst t3
                have hbn : ((b : Int) == -1) = false := by rw [beq_eq_false_iff_ne]; omega
                have HRE := Lib.hid (reasons_ hk4 t1 (by show Zs.cl.length ≤ _; rw [t2.cl]; exact HCL.out) b1 b2 (Fails.allIn b3))
                have HB3 := Lib.hid b3
                have HT4 := Lib.hid t4
                clear hk4 hc4 ho4 t1 t2 t4 hq4 b1 b2 b3
                go_wp2_with fail
                refine HRE.out.mono ?_
                rintro e w5 ⟨v, R, rfl, hrow, hvo, hup, hR, hb5⟩
                have HW : Hid (WhyR S c true R) := Lib.hid ⟨(whyR_try HT1.out HT2.out HB3.out HT4.out hR.1 hup).mem HMEM.out, fun _ => ⟨fun h => (by rw [← HFC.out] at h; cases h), fun _ h => absurd HB.out h, fun _ _ k' k1 k2 k3 => absurd k2 (HNT2.out _ (by rw [HN.out, List.getD_eq_getElem?_getD, List.getElem?_eq_getElem k1]; exact List.getElem_mem k1)), fun _ _ _ => by
                  rw [← HN.out, HTR.out]
                  exact ⟨b, rfl, hR.all⟩⟩⟩
                have HROW := Lib.hid hrow
                have HVO := Lib.hid hvo
                have HB5 := Lib.hid hb5
                clear hrow hvo hup hR hb5
                go_wp2
                refine leaves_cons (f := 48) (args := #[kp r]) (by simp) (by simp [go_sem]) ?_
                refine (undo_ (HK4.out.below HB5.out) HT1.out.con HT1.out.base .returning).mono ?_
                rintro e u' w'' ⟨rfl, rfl, hq⟩
                exact ⟨_, results_tmp2 rfl _ _ _, ⟨v, true, R, rfl, HW.out, why_fin HKP.out HKK.out HNT.out HNO.out HK4.out HC4.out HO4.out HB5.out HROW.out HVO.out hq (HT2.out.cut HSS.out.base)⟩⟩
    · obtain ⟨k, k1, k2, k3, k4⟩ := HSS.out.bad hb
      have hbb : (S.bk != -1) = true := by rw [bne_iff_ne]; exact hb
      have HRE := Lib.hid (reasons_ hk1 HSS.out.inv HCL.out k2 k3 (Fails.allIn k4))
      have HB := Lib.hid hb
      have HK4 := Lib.hid k4
      have HKE := Lib.hid k1
      rw [k1] at c6 hbb
      clear hown hown' hk1 hq hb k1 k2 k3 k4
      go_wp2_with fail
      refine HRE.out.mono ?_
      rintro e w3 ⟨v, R, rfl, hrow, hvo, hup, hR, hb3⟩
      have HF : Hid (WhyR S c true R ∧ WhyE w r S K v R w3) := Lib.hid ⟨⟨(whyR_broken HSS.out HB.out HKE.out HK4.out hR.1 hup).mem HMEM.out, fun _ => ⟨fun h => (by rw [← HFC.out] at h; cases h), fun _ _ => ⟨k, HKE.out, hR.all⟩, fun _ h => absurd h HB.out, fun _ h => absurd h HB.out⟩⟩, why_same HKP.out HKK.out HNT.out HNO.out (HOWN.out.2.1.trans (hb3.mono HOWN.out.2.1.size)) hrow (fun g hg => Nat.le_trans HOWN.out.2.1.size (hvo g hg))⟩
      clear hrow hvo hup hR hb3
      go_wp2
      refine ⟨_, results_tmp2 rfl _ _ _, ?_⟩
      exact ⟨v, true, R, rfl, HF.out.1, HF.out.2⟩
end
end Go.Proofs.Ytknpfopepedmmaa
