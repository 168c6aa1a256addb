/-
  A formula's text is parsed as it was: plain.
-/
import Derived.Test.YtnpmaphedcfnnaaDoorScD
import Derived.Test.YtnpmaphedcfnnaaDoorNumL
import Derived.Test.YtnpmaphedcfnnaaDoorCnfK
import Derived.Test.YtnpmaphedcfnnaaDoorCnfJ
import Derived.Test.YtnpmaphedcfnnaaDoorScJ
import Derived.Test.YtnpmaphedcfnnaaDoorCnfU
namespace Go.Proofs.YtnpmaphedcfnnaaDoor
set_option linter.unusedVariables false
theorem drop_next {α : Type} {l D R : List α} {k : Nat} (h : l.drop k = D ++ R) : l.drop (k + D.length) = R := by
  rw [← List.drop_drop, h, List.drop_left]
theorem drop_one {α : Type} {l R : List α} {c : α} {k : Nat} (h : l.drop k = c :: R) : l.drop (k + 1) = R := drop_next (D := [c]) h
theorem drop_get {l D R : List UInt8} {k j : Nat} (h : l.drop k = D ++ R) (hj : j < D.length) : l.getD (k + j) 0 = D.getD j 0 := by
  rw [← getD_drop, h]
  simp [List.getD, List.getElem?_append_left hj]
theorem drop_len {l D R : List UInt8} {k : Nat} (h : l.drop k = D ++ R) (hk : k ≤ l.length) : l.length = k + D.length + R.length := by
  have := congrArg List.length h
  rw [List.length_drop, List.length_append] at this
  omega
theorem drop_lt {l R : List UInt8} {c : UInt8} {k : Nat} (h : l.drop k = c :: R) : k < l.length ∧ l.getD k 0 = c := by
  have h1 := congrArg List.length h
  rw [List.length_drop, List.length_cons] at h1
  have h2 := drop_get (D := [c]) (R := R) (j := 0) h (by simp)
  exact ⟨by omega, by simpa using h2⟩
theorem wantG_at {t l R : List UInt8} {k : Nat} (h : l.drop k = t ++ R) (hk : k ≤ l.length) : ∀ n i, n + i = t.length → wantG t l k n i = none
  | 0, i, _ => rfl
  | n + 1, i, e => by
    have hl := drop_len h hk
    have := drop_get h (j := i) (by omega)
    unfold wantG
    rw [if_neg (by omega), if_pos this]
    exact wantG_at h hk n (i + 1) (by omega)
theorem wantE_at {t l R : List UInt8} {k : Nat} (h : l.drop k = t ++ R) (hk : k ≤ l.length) : wantE t l k = .ok (k + t.length) := by
  unfold wantE wantF
  rw [wantG_at h hk _ 0 rfl]
theorem endG_run {l : List UInt8} : ∀ (m n i : Nat), m ≤ n → (∀ j, j < m → isDig (l.getD (i + j) 0)) → (n = m ∨ ¬ isDig (l.getD (i + m) 0)) → endG l n i = i + m
  | 0, n, i, h1, h2, h3 => by
    cases n with
    | zero => rfl
    | succ n =>
      rw [endG, if_neg]
      · rfl
      · exact h3.elim (fun e => by omega) id
  | m + 1, n, i, h1, h2, h3 => by
    obtain ⟨n', rfl⟩ : ∃ n', n = n' + 1 := ⟨n - 1, by omega⟩
    rw [endG, if_pos (by simpa using h2 0 (by omega))]
    rw [endG_run m n' (i + 1) (by omega) (fun j hj => by have := h2 (j + 1) (by omega); rwa [show i + (j + 1) = i + 1 + j by omega] at this) (h3.elim (fun e => .inl (by omega)) (fun h => .inr (by rwa [show i + 1 + m = i + (m + 1) by omega])))]
    omega
theorem valU_ge : ∀ (D : List UInt8) (n u : Nat), valU n D = some u → n ≤ u
  | [], n, u, h => by simp [valU] at h; omega
  | c :: D, n, u, h => by
    unfold valU at h
    cases hs : stepU n c with
    | none => rw [hs] at h; simp at h
    | some m =>
      rw [hs] at h
      have := stepU_le hs
      have := valU_ge D m u h
      omega
/-- Digits that have a value are read so. -/
theorem valG_at {most : Nat} {l : List UInt8} : ∀ (D R : List UInt8) (i n u : Nat), l.drop i = D ++ R → valU n D = some u → u ≤ most → valG most l D.length i n = some u ∧ ∀ j, j < D.length → isDig (l.getD (i + j) 0)
  | [], R, i, n, u, h, hv, hm => by simp [valU] at hv; subst hv; exact ⟨rfl, fun j hj => by simp at hj⟩
  | c :: D, R, i, n, u, h, hv, hm => by
    unfold valU at hv
    cases hs : stepU n c with
    | none => rw [hs] at hv; simp at hv
    | some m =>
      rw [hs] at hv
      have hst := stepU_le hs
      have hge := valU_ge D m u hv
      obtain ⟨hlt, hg⟩ := drop_lt (R := D ++ R) h
      obtain ⟨h1, h2⟩ := valG_at D R (i + 1) m u (drop_one (R := D ++ R) h) hv hm
      refine ⟨?_, fun j hj => ?_⟩
      · rw [List.length_cons, valG, hg, if_neg (by omega), ← hst.1]
        exact h1
      · cases j with
        | zero => rw [Nat.add_zero, hg]; exact ⟨hst.2.1, hst.2.2.1⟩
        | succ j => rw [show i + (j + 1) = i + 1 + j by omega]; exact h2 j (by simpa using hj)
theorem dec_pos (u : Nat) : 0 < (Lib.decDigits u).length := List.length_pos_iff.2 (dec_ne u)
theorem numF_dec {most : Nat} {l R : List UInt8} {k u : Nat} {c : UInt8} (h : l.drop k = Lib.decDigits u ++ c :: R) (hc : ¬ isDig c) (hu : u ≤ most) (hm : u ≤ 18446744073709551615) : numF most l k = .ok (u, k + (Lib.decDigits u).length) := by
  have hp := dec_pos u
  obtain ⟨hv, hd⟩ := valG_at _ _ k 0 u h (val_dec u hm) hu
  have hkl : k < l.length := by
    have := congrArg List.length h
    rw [List.length_drop, List.length_append] at this
    omega
  have hlen := drop_len h (by omega)
  rw [List.length_cons] at hlen
  have hend : ¬ isDig (l.getD (k + (Lib.decDigits u).length) 0) := by
    rw [(drop_lt (drop_next h)).2]; exact hc
  have hE : endF l k = k + (Lib.decDigits u).length := endG_run _ _ _ (by omega) hd (.inr hend)
  unfold numF
  rw [if_neg (by omega), if_neg (fun hh => hh (by have := hd 0 hp; simpa using this)), hE]
  rw [if_neg, Nat.add_sub_cancel_left, hv]
  rintro ⟨h48, hk1⟩
  by_cases h10 : 10 ≤ u
  · apply dec_head u h10
    have := drop_get h hp
    rw [← this]
    simpa using h48
  · have : (Lib.decDigits u).length = 1 := by rw [Lib.decDigits, dif_pos (by omega)]; rfl
    omega
theorem uptoF_dec {l R : List UInt8} {k u : Nat} {c : UInt8} (h : l.drop k = Lib.decDigits u ++ c :: R) (hc : ¬ isDig c) (hu : u ≤ 65536) : uptoF l k = .ok (u, k + (Lib.decDigits u).length) := by
  unfold uptoF
  rw [numF_dec h hc (by omega) (by omega)]
  simp only
  rw [if_neg (by omega)]
theorem nd32 : ¬ isDig 32 := by unfold isDig; decide
theorem nd10 : ¬ isDig 10 := by unfold isDig; decide
theorem litF_itoa {vars : Nat} {l R : List UInt8} {k : Nat} {x : Int} {c : UInt8} (h : l.drop k = Lib.itoa x ++ c :: R) (hc : ¬ isDig c) (hx : x.natAbs ≤ vars) (hv : vars ≤ 65536) : litF vars l k = .ok (x, k + (Lib.itoa x).length) := by
  unfold Lib.itoa at h ⊢
  unfold litF
  by_cases hn : x < 0
  · rw [if_pos hn] at h ⊢
    have h45 := drop_lt (R := Lib.decDigits x.natAbs ++ c :: R) h
    rw [if_pos h45]
    rw [numF_dec (drop_one (R := Lib.decDigits x.natAbs ++ c :: R) h) hc (by omega) (by omega)]
    simp only
    rw [if_neg (by omega), if_neg (by omega)]
    rw [List.length_cons]
    congr 2
    · omega
    · omega
  · rw [if_neg hn] at h ⊢
    have hp := dec_pos x.toNat
    have hd := (valG_at (most := 1099511627776) _ _ k 0 x.toNat h (val_dec _ (by omega)) (by omega)).2 0 hp
    rw [if_neg, numF_dec h hc (by omega) (by omega)]
    · simp only
      rw [if_neg (by omega)]
      congr 2
      omega
    · rintro ⟨-, h45⟩
      rw [Nat.add_zero, h45] at hd
      revert hd
      unfold isDig
      decide
theorem clauseG_text {vars : Nat} (hv : vars ≤ 65536) {l : List UInt8} : ∀ (c : List Int) (f k : Nat) (R : List UInt8) (cs : List Int), l.drop k = clsT c ++ R → (∀ x ∈ c, x ≠ 0 ∧ x.natAbs ≤ vars) → c.length < f → k ≤ l.length → clauseG vars l f k cs = .ok (cs ++ c, k + (clsT c).length)
  | [], f, k, R, cs, h, hx, hf, hk => by
    obtain ⟨f', rfl⟩ : ∃ f', f = f' + 1 := ⟨f - 1, by simp at hf; omega⟩
    have h : l.drop k = Lib.itoa 0 ++ 10 :: R := by rw [h, itoa_0]; rfl
    have hl := drop_lt (c := 48) (R := 10 :: R) (by rw [h, itoa_0]; rfl)
    rw [clauseG_lit, litF_itoa h nd10 (by simp) hv]
    simp only
    rw [if_pos trivial, wantE_at (t := [10]) (R := R) (drop_next h) (by rw [itoa_0]; simp; omega)]
    simp [clsT, itoa_0]
  | x :: c, f, k, R, cs, h, hx, hf, hk => by
    obtain ⟨f', rfl⟩ : ∃ f', f = f' + 1 := ⟨f - 1, by simp at hf; omega⟩
    have hx0 := hx x (List.mem_cons_self ..)
    have e : clsT (x :: c) = Lib.itoa x ++ 32 :: clsT c := by simp [clsT, litT]
    have h : l.drop k = Lib.itoa x ++ 32 :: (clsT c ++ R) := by rw [h, e]; simp
    have hlen := drop_len h hk
    rw [List.length_cons] at hlen
    rw [clauseG_lit, litF_itoa h nd32 hx0.2 hv]
    simp only
    rw [if_neg hx0.1, wantE_at (t := [32]) (R := clsT c ++ R) (drop_next h) (by omega)]
    simp only [List.length_singleton]
    rw [clauseG_text hv c f' _ R (cs ++ [x]) (drop_one (drop_next h)) (fun y hy => hx y (List.mem_cons_of_mem _ hy)) (by simp at hf; omega) (by omega)]
    rw [e, List.length_append, List.length_cons, List.append_assoc]
    simp only [List.singleton_append]
    congr 2
    omega
theorem clauseF_text {vars : Nat} (hv : vars ≤ 65536) {l R : List UInt8} {c : List Int} {k : Nat} (h : l.drop k = clsT c ++ R) (hx : ∀ x ∈ c, x ≠ 0 ∧ x.natAbs ≤ vars) (hk : k ≤ l.length) : clauseF vars l k = .ok (c, k + (clsT c).length) := by
  have hlen := drop_len h hk
  have hc : c.length ≤ (clsT c).length := by
    unfold clsT
    rw [List.length_append]
    have : ∀ c : List Int, c.length ≤ (c.flatMap litT).length := fun c => by
      induction c with
      | nil => simp
      | cons x c ih =>
        rw [List.flatMap_cons, List.length_append, List.length_cons]
        have : 1 ≤ (litT x).length := by unfold litT; rw [List.length_append, List.length_singleton]; omega
        omega
    have := this c
    omega
  exact clauseG_text hv c _ k R [] h hx (by omega) hk
theorem clausesF_text {vars : Nat} (hv : vars ≤ 65536) {l : List UInt8} : ∀ (xss : List (List Int)) (k : Nat) (R : List UInt8) (L : List (List Int)), l.drop k = xss.flatMap clsT ++ R → (∀ c ∈ xss, ∀ x ∈ c, x ≠ 0 ∧ x.natAbs ≤ vars) → k ≤ l.length → clausesF vars l xss.length k L = .ok (L ++ xss, k + (xss.flatMap clsT).length)
  | [], k, R, L, h, hx, hk => by simp [clausesF]
  | c :: xss, k, R, L, h, hx, hk => by
    have h : l.drop k = clsT c ++ (xss.flatMap clsT ++ R) := by rw [h]; simp
    have hlen := drop_len h hk
    rw [List.length_cons, clausesF_step, clauseF_text hv h (hx c (List.mem_cons_self ..)) hk]
    simp only
    rw [clausesF_text hv xss _ R (L ++ [c]) (drop_next h) (fun c' hc' => hx c' (List.mem_cons_of_mem _ hc')) (by omega)]
    rw [List.append_assoc, List.singleton_append, List.flatMap_cons, List.length_append, Nat.add_assoc]
/-- There and back. -/
theorem parse_print {vars : Nat} {xss : List (List Int)} (hv : vars ≤ 65536) (hn : xss.length ≤ 65536) (hx : ∀ c ∈ xss, ∀ x ∈ c, x ≠ 0 ∧ x.natAbs ≤ vars) : parseF (printT (vars : Int) xss) = .ok (vars, xss) := by
  obtain ⟨l, hl⟩ : ∃ l, l = printT (vars : Int) xss := ⟨_, rfl⟩
  rw [← hl]
  have i1 : Lib.itoa (vars : Int) = Lib.decDigits vars := by unfold Lib.itoa; rw [if_neg (by omega)]; rfl
  have i2 : Lib.itoa (xss.length : Int) = Lib.decDigits xss.length := by unfold Lib.itoa; rw [if_neg (by omega)]; rfl
  have h0 : l.drop 0 = headB ++ (Lib.decDigits vars ++ 32 :: (Lib.decDigits xss.length ++ 10 :: (xss.flatMap clsT ++ []))) := by
    rw [hl]
    simp [printT, headT, headB, i1, i2]
  have hlen0 := drop_len h0 (Nat.zero_le _)
  have hB : headB.length = 6 := rfl
  have h1 : l.drop 6 = _ := drop_next h0
  have hlen1 := drop_len h1 (by omega)
  have h2 := drop_one (drop_next h1)
  simp only [List.length_append, List.length_cons, List.length_nil] at hlen1 hlen0
  have h3 := drop_one (drop_next h2)
  unfold parseF
  rw [show wantF headB l 0 = none from wantG_at h0 (Nat.zero_le _) _ 0 rfl]
  simp only
  rw [formF_eq, uptoF_dec h1 nd32 hv]
  simp only
  rw [wantE_at (t := [32]) (R := Lib.decDigits xss.length ++ 10 :: (xss.flatMap clsT ++ [])) (drop_next h1) (by omega)]
  simp only [List.length_singleton]
  rw [uptoF_dec h2 nd10 hn]
  simp only
  rw [wantE_at (t := [10]) (R := xss.flatMap clsT ++ []) (drop_next h2) (by omega)]
  simp only [List.length_singleton]
  rw [clausesF_text hv xss _ [] [] h3 hx (by omega)]
  simp only [List.nil_append]
  rw [if_neg (by omega)]
theorem itoa_len6 {x : Int} (h : x.natAbs ≤ 65536) : (Lib.itoa x).length ≤ 6 := by
  unfold Lib.itoa
  split
  · have := dlen 4 x.natAbs (by omega)
    rw [List.length_cons]; omega
  · have := dlen 4 x.toNat (by omega)
    omega
theorem flat_len {α : Type} (f : α → List UInt8) (b : Nat) : ∀ (xs : List α), (∀ x ∈ xs, (f x).length ≤ b) → (xs.flatMap f).length ≤ b * xs.length
  | [], _ => by simp
  | x :: xs, h => by
    rw [List.flatMap_cons, List.length_append, List.length_cons, Nat.mul_succ]
    have := flat_len f b xs (fun y hy => h y (List.mem_cons_of_mem _ hy))
    have := h x (List.mem_cons_self ..)
    omega
theorem print_len {vars : Nat} {xss : List (List Int)} (hv : vars ≤ 65536) (hn : xss.length ≤ 60) (hx : ∀ c ∈ xss, c.length ≤ 60 ∧ ∀ x ∈ c, x.natAbs ≤ 65536) : (printT (vars : Int) xss).length ≤ 100000 := by
  have h1 := itoa_len6 (x := (vars : Int)) (by omega)
  have h2 := itoa_len6 (x := (xss.length : Int)) (by omega)
  have h3 : (xss.flatMap clsT).length ≤ 422 * xss.length := flat_len clsT 422 xss (fun c hc => by
    have hlit := flat_len litT 7 c (fun x hxc => by
      have := itoa_len6 ((hx c hc).2 x hxc)
      unfold litT
      rw [List.length_append, List.length_singleton]
      omega)
    have := (hx c hc).1
    unfold clsT
    rw [List.length_append]
    simp only [List.length_cons, List.length_nil]
    omega)
  unfold printT headT
  simp only [List.length_append, List.length_cons, List.length_nil]
  omega
end Go.Proofs.YtnpmaphedcfnnaaDoor
/-
  A clause more: the models, plain.
-/
namespace Go.Proofs.YtnpmaphedcfnnaaDoor
set_option linter.unusedVariables false
theorem cnt_mono {g1 g2 : Nat → Bool} (h : ∀ k, g2 k = true → g1 k = true) : ∀ K, cntG g2 K ≤ cntG g1 K
  | 0 => Nat.le_refl _
  | K + 1 => by
    have := cnt_mono h K
    unfold cntG
    by_cases h2 : g2 K = true
    · rw [if_pos h2, if_pos (h K h2)]; omega
    · rw [if_neg h2]; split <;> omega
theorem good_more {sl : List (List Int)} {c : List Int} {n k : Nat} (h : goodB (sl ++ [c]) [] n k = true) : goodB sl [] n k = true ∧ allB sl (model k n) = true ∧ allB (sl ++ [c]) (model k n) = true := by
  unfold goodB at h ⊢
  rw [Bool.and_eq_true] at h ⊢
  have h2 := h.2
  unfold allB at h2 ⊢
  rw [List.all_append, Bool.and_eq_true] at h2
  refine ⟨⟨h.1, h2.1⟩, h2.1, ?_⟩
  rw [List.all_append, Bool.and_eq_true]
  exact h2
theorem fst_good {g : Nat → Bool} : ∀ {K i : Nat}, fstG g K = some i → g i = true
  | 0, i, h => by simp [fstG] at h
  | K + 1, i, h => by
    cases hf : fstG g K with
    | some j =>
      rw [fstG_old hf] at h
      injection h with h
      subst h
      exact fst_good hf
    | none =>
      by_cases hg : g K = true
      · rw [fstG_yes hg hf] at h
        injection h with h
        subst h
        exact hg
      · rw [fstG_no (by simpa using hg), hf] at h
        cases h
theorem ix_all {sl : List (List Int)} {ms : List Bool} (h : allB sl ms = true) : ixB sl ms = -1 := by
  have e := ixB_allB sl ms
  rw [h] at e
  have hn : ¬ 0 ≤ ixB sl ms := by rw [e]; simp
  unfold ixB at hn ⊢
  cases hf : sl.findIdx? (fun c => !holdsB c ms) with
  | none => rfl
  | some i => exact absurd (by rw [hf]; exact Int.natCast_nonneg i) hn
/-- What the law of a clause more asks. -/
theorem back_law (sl : List (List Int)) (c : List Int) (n K : Nat) : cntG (goodB (sl ++ [c]) [] n) K ≤ cntG (goodB sl [] n) K ∧
    ((cntG (goodB (sl ++ [c]) [] n) K = 0 ∧ fstG (goodB (sl ++ [c]) [] n) K = none) ∨ (0 < cntG (goodB (sl ++ [c]) [] n) K ∧ ∃ i, fstG (goodB (sl ++ [c]) [] n) K = some i ∧ ixB sl (model i n) = -1 ∧ ixB (sl ++ [c]) (model i n) = -1)) := by
  refine ⟨cnt_mono (fun k h => (good_more h).1) K, ?_⟩
  cases hf : fstG (goodB (sl ++ [c]) [] n) K with
  | none => exact .inl ⟨(cnt_fst _ K).2 hf, rfl⟩
  | some i =>
    refine .inr ⟨?_, i, rfl, ix_all (good_more (fst_good hf)).2.1, ix_all (good_more (fst_good hf)).2.2⟩
    rcases Nat.eq_zero_or_pos (cntG (goodB (sl ++ [c]) [] n) K) with h | h
    · rw [(cnt_fst _ K).1 h] at hf; cases hf
    · exact h
end Go.Proofs.YtnpmaphedcfnnaaDoor
/-
  The law CnfBack, walked.
-/
namespace Go.Proofs.YtnpmaphedcfnnaaDoor
open Go.ChangeShapes Go.WideShapes Go.ChangeAt Go.RowKit
set_option linter.unusedVariables false
def FitA (s : St) : Prop := ∀ c ∈ s.2, ∀ x ∈ c, x ≠ 0 ∧ (x.natAbs : Int) ≤ s.1
theorem fit_right {c : List Int} {v : Int} (h : rightB c v = true) : ∀ x ∈ c, x ≠ 0 ∧ (x.natAbs : Int) ≤ v := by
  unfold rightB at h
  rw [List.all_eq_true] at h
  intro x hx
  have := of_decide_eq_true (h x hx)
  exact ⟨this.1, by omega⟩
theorem FitA.step {s : St} (h : FitA s) (a : ActC) : FitA (stepA s a) := by
  unfold stepA
  split
  · split
    · exact h
    · intro c hc x hx
      have := h c hc x hx
      exact ⟨this.1, by simp only [Int.max_def]; split <;> omega⟩
  · split
    · rename_i hr
      intro c hc
      simp at hc
      rcases hc with hc | rfl
      · exact h c hc
      · exact fit_right hr
    · exact h
theorem playA_fit (v : Int) (xs : List ActC) : FitA (playA v xs) := by
  have key : ∀ k, k ≤ xs.length → FitA (playA v (xs.take k)) := by
    intro k
    induction k with
    | zero => intro _ c hc; simp [playA] at hc
    | succ k ih =>
      intro hk
      rw [playA_step v xs k (by omega)]
      exact (ih (by omega)).step _
  have := key _ (Nat.le_refl _)
  rwa [List.take_length] at this
/-- A text as bytes. -/
theorem conv_by (w : World) (l : List UInt8) (cap : Nat) (fz : Nat × Nat) (h1 : l.length ≤ cap) (h2 : cap ≤ maxLen) : ByA ((w.alloc (.cells (bytesRow (bs l) cap) 5 fz)).drew) (.slice (some ⟨w.heap.size, 0, none⟩) (bs l).size cap) l := by
  rw [bs_size]
  refine ⟨⟨_, cap, rfl, h1, h2, .inr ⟨w.heap.size, 0, rfl, fun j hj => ?_⟩⟩, fun n c e => by cases e⟩
  unfold ByR
  rw [Nat.zero_add, Nat.mul_one]
  have hb : (w.alloc (.cells (bytesRow (bs l) cap) 5 fz)).heap[w.heap.size]? = some (.cells (bytesRow (bs l) cap) 5 fz) := heap_alloc_new w _
  show (w.alloc (.cells (bytesRow (bs l) cap) 5 fz)).cell? ⟨w.heap.size, j, none⟩ = _
  rw [cell_of_row _ _ _ _ _ _ hb]
  have hk' : j < (bs l).data.size := by simpa [bs] using hj
  unfold bytesRow
  rw [Array.getElem?_append_left (by simpa using hk'), Array.getElem?_map, Array.getElem?_eq_getElem hk']
  simp [bs, List.getD, hj]
set_option maxHeartbeats 4000000 in
set_option maxRecDepth 100000 in
theorem claw_back {w : World} {u uc : Value} {xs : List ActC} {cs : List Int} (ht : Tab w) (hLd : Laid w) (v : Int) (h : ActsC w u xs) (hc : Ints w uc cs) :
    Calls Tryd.prog 7 #[.int .i64 v, u, uc] w fun e w' => e = .returned (.bool true) ∧ Below w.heap.size w w' := by
  have HA := Lib.hid (alive_all (wr := w) ht)
  have HL := Lib.hid (light_ h)
  have HX := Lib.hid h
  have HT := Lib.hid ht
  have HLD := Lib.hid hLd
  have HCS := Lib.hid hc
  obtain ⟨ua, uc', rfl, -, -⟩ := h.form
  obtain ⟨fa, fc, rfl, -, p1, p2, -⟩ := hc
  generalize xs.length = n0 at *
  have hnc : cs.length ≤ 9223372036854775807 := Nat.le_trans p1 p2
  clear h ht p1 p2 hLd
  cases hl : lightB xs with
  | false =>
    rw [hl] at HL
    generalize cs.length = nc at *
    clear hl
    go_enter Tryd.func7, Tryd.ntmps7
    go_wp2_with (first | (go_at_call 8; refine HL.out.mono ?_; rintro e w1 ⟨rfl, rfl⟩) | (go_at_call 10; refine (HA.out _ (Below.refl _ _)).mono ?_; rintro e w2 ⟨rfl, hb2⟩; have HB2 := Lib.hid hb2; clear hb2))
    go_ret
    exact ⟨rfl, HB2.out⟩
  | true =>
  rw [hl] at HL
  by_cases hc60 : 60 < cs.length
  · generalize cs.length = nc at *
    clear hl
    go_enter Tryd.func7, Tryd.ntmps7
    go_wp2_with (first | (go_at_call 8; refine HL.out.mono ?_; rintro e w1 ⟨rfl, rfl⟩) | (go_at_call 10; refine (HA.out _ (Below.refl _ _)).mono ?_; rintro e w2 ⟨rfl, hb2⟩; have HB2 := Lib.hid hb2; clear hb2))
    go_ret
    exact ⟨rfl, HB2.out⟩
  by_cases hv : v < 0 ∨ 65536 < v
  · have HM := Lib.hid (made_off v hv HX.out)
    generalize cs.length = nc at *
    clear hl hv
    go_enter Tryd.func7, Tryd.ntmps7
    go_wp2_with fail
    refine HL.out.mono ?_
    rintro e w1 ⟨rfl, rfl⟩
    go_wp2_with fail
    refine HM.out.mono ?_
    rintro e w1 ⟨rfl, hb1⟩
    have HB1 := Lib.hid (hb1.alloc (B := w.heap.size) hb1.size (.cells #[.int .i64 0, .slice none 0 0] 31))
    clear hb1
    go_wp2_with fail
    refine (HA.out _ HB1.out).mono ?_
    rintro e w2 ⟨rfl, hb2⟩
    have HB2 := Lib.hid hb2
    clear hb2
    go_wp2
    go_ret
    exact ⟨rfl, HB2.out⟩
  have h0 : 0 ≤ v := by omega
  have h1 : v ≤ 65536 := by omega
  have HM := Lib.hid (made_on v h0 h1 HX.out hl)
  have HG := Lib.hid (playA_good h0 h1 hl)
  have HFit := Lib.hid (playA_fit v xs)
  have HN := Lib.hid (lightB_at hl).1
  generalize playA v xs = s at HM HG HFit
  generalize xs.length = k at HG HN
  obtain ⟨sv, sl⟩ := s
  obtain ⟨n, rfl⟩ : ∃ n : Nat, sv = (n : Int) := ⟨sv.toNat, by have := HG.out.v0; simp at this; omega⟩
  have hn16 : n ≤ 65536 := by have := HG.out.v1; simp at this; omega
  have hn60 : sl.length ≤ 60 := by have := HG.out.n; have := HN.out; simp at *; omega
  have HPL := Lib.hid (print_len (vars := n) (xss := sl) hn16 hn60 (fun c hc => ⟨(HG.out.cl c hc).2.1, fun x hx => by have := (HFit.out c hc x hx).2; simp at this; omega⟩))
  have HPP := Lib.hid (parse_print (vars := n) (xss := sl) hn16 (by omega) (fun c hc x hx => by have := HFit.out c hc x hx; simp at this; exact ⟨this.1, by omega⟩))
  have hx1 : sl.length ≤ 1000000 := by omega
  have HX2 := Lib.hid (at_small HG.out HN.out).1
  clear hl hv h0 h1
  go_enter Tryd.func7, Tryd.ntmps7
  go_wp2_with fail
  refine HL.out.mono ?_
  rintro e w1 ⟨rfl, rfl⟩
  go_wp2_with fail
  refine HM.out.mono ?_
  rintro e w1 ⟨f, out, rfl, hF, hS, hb1⟩
  obtain ⟨A, oc, rfl, -, -⟩ := hS.form
  have hbA : Below w1.heap.size w1 (w1.alloc (.cells #[.int .i64 (n : Int), .slice A sl.length oc] 31)) := (Below.refl _ _).alloc (Nat.le_refl _) _
  have hF0 := hF.below hbA
  have hb0 := hb1.trans (hbA.mono hb1.size)
  clear hF hS hb1 hbA
  go_wp2_with fail
  generalize hW0 : w1.alloc (.cells #[.int .i64 (n : Int), .slice A sl.length oc] 31) = W0 at *
  clear hW0
  generalize w1.heap.size = g0 at *
  have HF0 := Lib.hid hF0
  have HB0 := Lib.hid hb0
  have A1 := Lib.hid (all_Print (HT.out.below hb0) hF0 HG.out HN.out)
  have A2 := Lib.hid (all_Vars hF0)
  have A3 := Lib.hid (all_Clauses2 hF0 hx1 HX2.out)
  have A4 := Lib.hid (fun W hW => all_Count hF0 HG.out (ints_nil W0) (fun x hx => by simp at hx) W hW)
  have A9 := Lib.hid (alive_all (wr := W0) (HT.out.below hb0))
  have hLD0 := Lib.hid (HLD.out.below hb0)
  obtain ⟨tx, htx⟩ : ∃ tx, tx = printT (n : Int) sl := ⟨_, rfl⟩
  rw [← htx] at A1 HPL HPP
  have hcv := fun w => run_bytes_of_string (P := Tryd.prog) w 9 52 5 (bs tx) Tryd.underlying9 Tryd.underlying52 Tryd.underlying5
  have HPA : Hid (∀ W vv, Below W0.heap.size W0 W → ByA W vv tx → Calls Tryd.prog 27 #[vv] W (ParsePost W (.ok (n, sl)))) := Lib.hid (fun W vv hW hb => HPP.out ▸ Parse_ (hLD0.out.below hW) hb HPL.out _ rfl)
  clear htx hF0 hb0
  refine (A1.out _ (Below.refl _ _)).mono ?_
  rintro e w2 ⟨rfl, hb2⟩
  have HB2 := Lib.hid hb2
  have HBY := Lib.hid (conv_by w2 tx (grownCap w2 (bs tx).size 0 5) ((bytesRow (bs tx) (grownCap w2 (bs tx).size 0 5)).size, (bytesRow (bs tx) (grownCap w2 (bs tx).size 0 5)).size + 1) (by have := grownCap_ge w2 (bs tx).size 0 5; rw [bs_size] at this ⊢; exact this) (grownCap_le_maxLen _ _ _ _ (by rw [bs_size]; have := HPL.out; unfold maxLen; omega)))
  have HB3 := Lib.hid ((hb2.trans ((below_new1 w2 (.cells (bytesRow (bs tx) (grownCap w2 (bs tx).size 0 5)) 5 ((bytesRow (bs tx) (grownCap w2 (bs tx).size 0 5)).size, (bytesRow (bs tx) (grownCap w2 (bs tx).size 0 5)).size + 1))).mono hb2.size)).drew)
  clear hb2
  go_wp2_with fail
  refine (HPA.out _ _ HB3.out HBY.out).mono ?_
  rintro e w3 ⟨hb3, g, fp, B, rfl, hf3, hB3, hfp3⟩
  have hbw3 := HB3.out.trans (hb3.mono HB3.out.size)
  have HBW3 := Lib.hid hbw3
  have HBG : Hid (W0.heap.size ≤ B) := Lib.hid (Nat.le_trans HB3.out.size hB3)
  have HF3 := Lib.hid hf3
  have AV := Lib.hid (Vars_ hf3.toF)
  clear hcv hb3 hf3 hB3 hfp3 hbw3
  generalize (w2.alloc (.cells (bytesRow (bs tx) (grownCap w2 (bs tx).size 0 5)) 5 ((bytesRow (bs tx) (grownCap w2 (bs tx).size 0 5)).size, (bytesRow (bs tx) (grownCap w2 (bs tx).size 0 5)).size + 1))).drew = wz at *
  generalize (bs tx).size = tn at *
  generalize grownCap w2 tn 0 5 = tc at *
  go_wp2_with fail
  refine AV.out.mono ?_
  rintro e w4 ⟨rfl, rfl⟩
  have AV2 := Lib.hid (Vars_ (HF0.out.below HBW3.out))
  go_wp2_with fail
  refine AV2.out.mono ?_
  rintro e w4 ⟨rfl, rfl⟩
  have AC := Lib.hid (Clauses_ HF3.out.toF hx1 HX2.out)
  go_wp2_with fail
  refine AC.out.mono ?_
  rintro e w4 ⟨u4, rfl, ho4⟩
  have HS4 := Lib.hid ho4.intsS
  have hb4 := ho4.old
  have HBW4 := Lib.hid (HBW3.out.trans (hb4.mono HBW3.out.size))
  have HF4 := Lib.hid (HF3.out.below hb4)
  have AC2 := Lib.hid (Clauses_ (HF0.out.below HBW4.out) hx1 HX2.out)
  obtain ⟨a4, c4, rfl⟩ := ho4.form
  clear ho4 hb4
  go_wp2_with fail
  refine AC2.out.mono ?_
  rintro e w5 ⟨u5, rfl, ho5⟩
  have hb5 := ho5.old
  have HBW5 := Lib.hid (HBW4.out.trans (hb5.mono HBW4.out.size))
  have HF5 := Lib.hid (HF4.out.below hb5)
  have ALs := Lib.hid (Lists_same (HS4.out.below hb5) ho5.intsS)
  obtain ⟨a5, c5, rfl⟩ := ho5.form
  clear ho5 hb5
  generalize hm : sl.length = m at *
  go_wp2_with fail
  refine ALs.out.mono ?_
  rintro e w6 ⟨rfl, nq, rfl⟩
  have HBW6 := Lib.hid (HBW5.out.trans ((below_drewN (Below.refl _ w5) nq).mono HBW5.out.size))
  have HF6 := Lib.hid (HF5.out.below (below_drewN (Below.refl _ w5) nq))
  generalize w5.drewN nq = w6 at *
  have AN := Lib.hid (all_Count (HF0.out.below HBW6.out) HG.out (ints_nil w6) (fun x hx => by simp at hx) w6 (Below.refl _ _))
  go_wp2_with fail
  refine AN.out.mono ?_
  rintro e w7 ⟨u7, rfl, hu7, hb7⟩
  have HBW7 := Lib.hid (HBW6.out.trans (hb7.mono HBW6.out.size))
  have HF7 := Lib.hid (HF6.out.below hb7)
  have HSZ : Hid (B ≤ w7.heap.size) := Lib.hid (by
    have h7 := HF7.out
    obtain ⟨hB, vl, us, hk, -⟩ := h7
    have := hk.lt
    omega)
  obtain ⟨v7a, v7c, rfl, -⟩ := hu7
  generalize (fstV (n : Int) sl []).length = l7 at *
  clear hb7
  have HIC := Lib.hid ((HCS.out.below HB0.out).below HBW7.out)
  cases hr : rightB cs (n : Int) with
  | false =>
    have AD := Lib.hid (Add_no HF7.out.toF (by omega) (by omega) HIC.out hr)
    clear hr
    go_wp2_with fail
    refine AD.out.mono ?_
    rintro e w8 ⟨rfl, hb8⟩
    have HBW8 := Lib.hid (HBW7.out.trans (hb8.mono HBW7.out.size))
    clear hb8
    go_wp2_with fail
    refine (A9.out _ HBW8.out).mono ?_
    rintro e w9 ⟨rfl, hb9⟩
    have HB9 := Lib.hid (HB0.out.trans (hb9.mono HB0.out.size))
    clear hb9
    go_wp2
    go_ret
    exact ⟨rfl, HB9.out⟩
  | true =>
    have AD := Lib.hid (Add_yes HF7.out HSZ.out (by omega) (by omega) HIC.out hr (by omega) (by omega))
    have HR := Lib.hid hr
    clear hr
    by_cases hs12 : n ≤ 12
    · have hcn : cntV (n : Int) sl [] = ((cntG (goodB sl [] n) (2 ^ n) : Nat) : Int) := by unfold cntV; rw [if_pos (by omega)]; rfl
      have HG2 : Hid (GoodA ((n : Int), sl ++ [cs]) (k + 1)) := Lib.hid ⟨by simp, by simp; omega, by simp; have := HG.out.n; simp at this; omega, fun c hc => by
        simp at hc
        rcases hc with hc | rfl
        · exact HG.out.cl c hc
        · exact ⟨(rightB_cl HR.out (by omega)).1, by omega, (rightB_cl HR.out (by omega)).2⟩⟩
      obtain ⟨hle, hcase⟩ := back_law sl cs n (2 ^ n)
      have hcg : cntV (n : Int) (sl ++ [cs]) [] = ((cntG (goodB (sl ++ [cs]) [] n) (2 ^ n) : Nat) : Int) := by unfold cntV; rw [if_pos (by omega)]; rfl
      have hfg : fstV (n : Int) (sl ++ [cs]) [] = (match fstG (goodB (sl ++ [cs]) [] n) (2 ^ n) with | none => [] | some i => model i n) := by unfold fstV; rw [if_pos (by omega)]; rfl
      rw [hcn]
      have HCG := Lib.hid hcg
      have HFG := Lib.hid hfg
      generalize cntG (goodB sl [] n) (2 ^ n) = n1 at *
      generalize hn2 : cntG (goodB (sl ++ [cs]) [] n) (2 ^ n) = n2 at *
      have hn1n : ¬ (n1 : Int) < 0 := by omega
      have hnle : (n2 : Int) ≤ (n1 : Int) := by omega
      clear hcn hcg hfg hn2 hle
      go_wp2_with fail
      refine AD.out.mono ?_
      rintro e w8 ⟨rfl, fp', hf8, hc8, hfp8, hb8⟩
      have HBW8 := Lib.hid (HBW7.out.trans (hb8.mono HBG.out))
      have HF8 := Lib.hid hf8
      have AN2 := Lib.hid (all_Count hf8.toF HG2.out (ints_nil w8) (fun x hx => by simp at hx) w8 (Below.refl _ _))
      clear hf8 hc8 hfp8 hb8
      go_wp2_with fail
      refine AN2.out.mono ?_
      rintro e w9 ⟨u9, rfl, hu9, hb9⟩
      have HBW9 := Lib.hid (HBW8.out.trans (hb9.mono HBW8.out.size))
      have HF9 := Lib.hid (HF8.out.below hb9)
      rw [HCG.out]
      rw [HFG.out] at hu9
      clear hb9
      rcases hcase with ⟨rfl, hnone⟩ | ⟨hpos, i, hsome, hi1, hi2⟩
      · rw [hnone] at hu9
        obtain ⟨v9a, v9c, rfl, -⟩ := hu9
        clear hnone
        go_wp2_with fail
        refine (A9.out _ HBW9.out).mono ?_
        rintro e w10 ⟨rfl, hb10⟩
        have HB10 := Lib.hid (HB0.out.trans (hb10.mono HB0.out.size))
        clear hb10
        go_wp2
        go_ret
        exact ⟨rfl, HB10.out⟩
      · rw [hsome] at hu9
        have hu9 : Bools w9 u9 (model i n) := hu9
        have hml := model_length i n
        have AH1 := Lib.hid (Holds_ (HF0.out.below HBW9.out) HG.out.all hu9)
        have HU9 := Lib.hid hu9
        rw [hi1] at AH1
        have AH11 := AH1
        obtain ⟨v9a, v9c, rfl, -⟩ := hu9
        have HI2 := Lib.hid hi2
        have hb0 : ((n2 : Int) == 0) = false := by rw [beq_eq_false_iff_ne]; omega
        have hlb : (((model i n).length : Int) == 0) = false := by rw [hml, beq_eq_false_iff_ne]; omega
        generalize (model i n).length = lm at *
        clear hsome hi1 hi2 hml AH1
        go_wp2_with fail
        refine AH11.out.mono ?_
        rintro e w10 ⟨rfl, hb10⟩
        have HBW10 := Lib.hid (HBW9.out.trans (hb10.mono HBW9.out.size))
        have AH2 := Lib.hid (Holds_ (HF9.out.below hb10).toF HG2.out.all (HU9.out.below hb10))
        rw [HI2.out] at AH2
        have AH22 := AH2
        clear hb10 AH2
        go_wp2_with fail
        refine AH22.out.mono ?_
        rintro e w11 ⟨rfl, hb11⟩
        have HBW11 := Lib.hid (HBW10.out.trans (hb11.mono HBW10.out.size))
        clear hb11
        go_wp2_with fail
        refine (A9.out _ HBW11.out).mono ?_
        rintro e w12 ⟨rfl, hb12⟩
        have HB12 := Lib.hid (HB0.out.trans (hb12.mono HB0.out.size))
        clear hb12
        go_wp2
        go_ret
        exact ⟨rfl, HB12.out⟩
    · have hcn : cntV (n : Int) sl [] = -1 := by unfold cntV; rw [if_neg (by omega)]
      rw [hcn]
      clear hcn
      go_wp2_with fail
      refine AD.out.mono ?_
      rintro e w8 ⟨rfl, fp', hf8, hc8, hfp8, hb8⟩
      have HBW8 := Lib.hid (HBW7.out.trans (hb8.mono HBG.out))
      clear hf8 hc8 hfp8 hb8
      go_wp2_with fail
      refine (A9.out _ HBW8.out).mono ?_
      rintro e w9 ⟨rfl, hb9⟩
      have HB9 := Lib.hid (HB0.out.trans (hb9.mono HB0.out.size))
      clear hb9
      go_wp2
      go_ret
      exact ⟨rfl, HB9.out⟩
end Go.Proofs.YtnpmaphedcfnnaaDoor
