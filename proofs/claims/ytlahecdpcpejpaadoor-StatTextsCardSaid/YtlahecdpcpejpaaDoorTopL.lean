/-
  PLAIN: levels of nodes: what they are, that they are one, and how the document's rounds find them.
-/
import Derived.Test.YtlahecdpcpejpaaDoorNetP
namespace Go.Proofs.YtlahecdpcpejpaaDoor
set_option linter.unusedVariables false
structure NodesOK (l : List NodeD) (V : Nat) : Prop where
  uniq : ∀ i j v, i < l.length → j < l.length → v ∈ (l.getD i node0).vars → v ∈ (l.getD j node0).vars → i = j
  vrng : ∀ i, i < l.length → ∀ v ∈ (l.getD i node0).vars, 1 ≤ v ∧ v ≤ (V : Int)
  frng : ∀ i, i < l.length → ∀ y ∈ (l.getD i node0).frm, 0 ≤ y ∧ y ≤ 2 * (V : Int) + 1
  vne : ∀ i, i < l.length → (l.getD i node0).vars ≠ []
def mx (frm : List Int) (f : Int → Nat) : Nat := frm.foldl (fun a y => max a (f y)) 0
theorem mx_snoc (frm : List Int) (y : Int) (f : Int → Nat) : mx (frm ++ [y]) f = max (mx frm f) (f y) := by unfold mx; rw [List.foldl_append]; rfl
theorem mx_snocInd {C : List Int → Prop} (h0 : C []) (h1 : ∀ l y, C l → C (l ++ [y])) (l : List Int) : C l := by
  have : ∀ m : List Int, C m.reverse := fun m => by
    induction m with
    | nil => exact h0
    | cons y m ih => rw [List.reverse_cons]; exact h1 _ _ ih
  simpa using this l.reverse
theorem mx_congr {frm : List Int} {f g : Int → Nat} (h : ∀ y ∈ frm, f y = g y) : mx frm f = mx frm g := by
  revert h
  refine mx_snocInd (C := fun l => (∀ y ∈ l, f y = g y) → mx l f = mx l g) (fun _ => rfl) (fun l y ih h => ?_) frm
  rw [mx_snoc, mx_snoc, ih (fun z hz => h z (by simp [hz])), h y (by simp)]
theorem le_mx {frm : List Int} {f : Int → Nat} : ∀ y ∈ frm, f y ≤ mx frm f := by
  refine mx_snocInd (C := fun l => ∀ y ∈ l, f y ≤ mx l f) (fun _ h => by cases h) (fun l y ih z hz => ?_) frm
  rw [mx_snoc]
  rcases List.mem_append.1 hz with h | h
  · have := ih z h; omega
  · simp at h; subst h; omega
theorem mx_hit (frm : List Int) (f : Int → Nat) : mx frm f = 0 ∨ ∃ y ∈ frm, f y = mx frm f := by
  refine mx_snocInd (C := fun l => mx l f = 0 ∨ ∃ y ∈ l, f y = mx l f) (.inl rfl) (fun l y ih => ?_) frm
  rw [mx_snoc]
  rcases Nat.le_total (mx l f) (f y) with h | h
  · exact .inr ⟨y, by simp, by omega⟩
  · rcases ih with h0 | ⟨z, hz, he⟩
    · left; omega
    · exact .inr ⟨z, by simp [hz], by omega⟩
/-- A variable's level. -/
inductive Lev (l : List NodeD) : Int → Nat → Prop
  | leaf (v : Int) : (∀ i, i < l.length → v ∉ (l.getD i node0).vars) → Lev l v 0
  | node (v : Int) (i : Nat) (f : Int → Nat) : i < l.length → v ∈ (l.getD i node0).vars → (∀ y ∈ (l.getD i node0).frm, Lev l (y / 2) (f y)) → Lev l v (mx (l.getD i node0).frm f + 1)
/-- What a node's variable's level comes from. -/
theorem Lev.inv {l : List NodeD} {V : Nat} (ok : NodesOK l V) {v : Int} {k i : Nat} (h : Lev l v k) (hi : i < l.length) (hv : v ∈ (l.getD i node0).vars) :
    ∃ f, (∀ y ∈ (l.getD i node0).frm, Lev l (y / 2) (f y)) ∧ k = mx (l.getD i node0).frm f + 1 := by
  cases h with
  | leaf _ h => exact absurd hv (h i hi)
  | node _ j f hj hvj hf =>
    obtain rfl := ok.uniq i j v hi hj hv hvj
    exact ⟨f, hf, rfl⟩
theorem Lev.uniq {l : List NodeD} {V : Nat} (ok : NodesOK l V) {v : Int} {k : Nat} (h : Lev l v k) : ∀ {k' : Nat}, Lev l v k' → k = k' := by
  induction h with
  | leaf v h =>
    intro k' h'
    cases h' with
    | leaf _ _ => rfl
    | node _ j f hj hvj hf => exact absurd hvj (h j hj)
  | node v i f hi hv hf ih =>
    intro k' h'
    obtain ⟨g, hg, rfl⟩ := h'.inv ok hi hv
    rw [mx_congr (fun y hy => ih y hy (hg y hy))]
/-- Levels go no higher than there are nodes. -/
theorem Lev.chain {l : List NodeD} {V : Nat} (ok : NodesOK l V) {v : Int} {k : Nat} (h : Lev l v k) :
    ∃ ns : List Nat, ns.Nodup ∧ ns.length = k ∧ ∀ i ∈ ns, i < l.length ∧ ∃ u ∈ (l.getD i node0).vars, ∃ j, j ≤ k ∧ Lev l u j := by
  induction h with
  | leaf v h => exact ⟨[], List.nodup_nil, rfl, fun _ h => by cases h⟩
  | node v i f hi hv hf ih =>
    have hLv : Lev l v (mx (l.getD i node0).frm f + 1) := .node v i f hi hv hf
    rcases mx_hit (l.getD i node0).frm f with h0 | ⟨y, hy, he⟩
    · exact ⟨[i], by simp, by rw [h0]; rfl, fun j hj => by simp at hj; subst hj; exact ⟨hi, v, hv, _, Nat.le_refl _, hLv⟩⟩
    · obtain ⟨ns, h1, h2, h3⟩ := ih y hy
      refine ⟨i :: ns, List.nodup_cons.2 ⟨fun hin => ?_, h1⟩, by rw [List.length_cons, h2, he], fun j hj => ?_⟩
      · obtain ⟨-, u, hu, j, hj, hL⟩ := h3 i hin
        have : Lev l u (mx (l.getD i node0).frm f + 1) := .node u i f hi hu hf
        have := hL.uniq ok this
        omega
      · rcases List.mem_cons.1 hj with rfl | hj
        · exact ⟨hi, v, hv, _, Nat.le_refl _, hLv⟩
        · obtain ⟨a, u, b, j', c, d⟩ := h3 j hj
          exact ⟨a, u, b, j', by omega, d⟩
theorem Lev.bound {l : List NodeD} {V : Nat} (ok : NodesOK l V) {v : Int} {k : Nat} (h : Lev l v k) : k ≤ l.length := by
  obtain ⟨ns, h1, h2, h3⟩ := h.chain ok
  have := nodup_le (b := List.range l.length) h1 (fun i hi => List.mem_range.2 (h3 i hi).1)
  rw [List.length_range] at this
  omega
/-- Which node defines a variable, of the first k: its number and one, or 0. -/
def ofK (l : List NodeD) : Nat → Int → Nat
  | 0, _ => 0
  | k + 1, v => if v ∈ (l.getD k node0).vars then k + 1 else ofK l k v
theorem ofK_le (l : List NodeD) (v : Int) : ∀ k, ofK l k v ≤ k
  | 0 => Nat.le_refl _
  | k + 1 => by unfold ofK; split; exact Nat.le_refl _; have := ofK_le l v k; omega
theorem ofK_some {l : List NodeD} {v : Int} : ∀ {k i : Nat}, ofK l k v = i + 1 → i < k ∧ v ∈ (l.getD i node0).vars
  | 0, i, h => by cases h
  | k + 1, i, h => by
    unfold ofK at h
    by_cases hv : v ∈ (l.getD k node0).vars
    · rw [if_pos hv] at h
      obtain rfl : k = i := by omega
      exact ⟨by omega, hv⟩
    · rw [if_neg hv] at h
      have := ofK_some h
      exact ⟨by omega, this.2⟩
theorem ofK_zero {l : List NodeD} {v : Int} : ∀ {k : Nat}, ofK l k v = 0 → ∀ i, i < k → v ∉ (l.getD i node0).vars
  | 0, _, i, hi => absurd hi (by omega)
  | k + 1, h, i, hi => by
    unfold ofK at h
    by_cases hv : v ∈ (l.getD k node0).vars
    · rw [if_pos hv] at h; cases h
    · rw [if_neg hv] at h
      rcases Nat.lt_or_ge i k with h1 | h1
      · exact ofK_zero h i h1
      · rw [show i = k by omega]; exact hv
def ofN (l : List NodeD) (v : Int) : Nat := ofK l l.length v
theorem ofN_leaf {l : List NodeD} {v : Int} (h : ofN l v = 0) : Lev l v 0 := .leaf v (ofK_zero h)
theorem ofN_mem {l : List NodeD} {V : Nat} (ok : NodesOK l V) {v : Int} {i : Nat} (hi : i < l.length) (hv : v ∈ (l.getD i node0).vars) : ofN l v = i + 1 := by
  rcases Nat.eq_zero_or_pos (ofN l v) with h | h
  · exact absurd hv (ofK_zero h i hi)
  · obtain ⟨j, hj⟩ : ∃ j, ofN l v = j + 1 := ⟨ofN l v - 1, by omega⟩
    have := ofK_some hj
    rw [hj, ok.uniq i j v hi this.1 hv this.2]
/-- Nothing hangs on itself. -/
def Acyc (l : List NodeD) (V : Nat) : Prop := ∀ v : Int, 0 ≤ v → v ≤ V → ∃ k, Lev l v k
/-! ### the document's rounds -/
/-- A node's level, by those that are told (below 0: not yet). -/
def told1 (frm : List Int) (o : Int → Int) : Int := if frm.any (fun y => decide (o (y / 2) < 0)) = true then -1 else (mx frm (fun y => (o (y / 2)).toNat) : Int) + 1
structure RInv (l : List NodeD) (V : Nat) (r i left : Nat) (o : Int → Int) : Prop where
  leaf : ∀ v : Int, ofN l v = 0 → o v = 0
  told : ∀ v : Int, 0 ≤ v → v ≤ V → 0 ≤ o v → Lev l v (o v).toNat
  low : ∀ v : Int, 0 ≤ v → v ≤ V → -1 ≤ o v
  old : ∀ (v : Int) k, 0 ≤ v → v ≤ V → Lev l v k → k ≤ r → o v = k
  new : ∀ j, j < i → ∀ (v : Int) k, v ∈ (l.getD j node0).vars → Lev l v k → k ≤ r + 1 → o v = k
  none : left = 0 → ∀ j, j < i → ∀ v ∈ (l.getD j node0).vars, 0 ≤ o v
  some : 0 < left → ∃ j, j < i ∧ ∀ v ∈ (l.getD j node0).vars, ∀ k, Lev l v k → r + 1 < k
/-- The node's variables get their level. -/
def put1 (vs : List Int) (n : Int) (o : Int → Int) (v : Int) : Int := if v ∈ vs then n else o v
theorem RInv.step {l : List NodeD} {V r i left : Nat} {o : Int → Int} (ok : NodesOK l V) (h : RInv l V r i left o) (hi : i < l.length) :
    RInv l V r (i + 1) (if told1 (l.getD i node0).frm o < 0 then left + 1 else left) (put1 (l.getD i node0).vars (told1 (l.getD i node0).frm o) o) := by
  obtain ⟨x, hx⟩ : ∃ x, x = l.getD i node0 := ⟨_, rfl⟩
  rw [← hx]
  have hfr : ∀ y ∈ x.frm, 0 ≤ y / 2 ∧ y / 2 ≤ (V : Int) := fun y hy => by have := ok.frng i hi y (by rw [← hx]; exact hy); omega
  have hvr : ∀ v ∈ x.vars, 1 ≤ v ∧ v ≤ (V : Int) := fun v hv => ok.vrng i hi v (by rw [← hx]; exact hv)
  have hof : ∀ v ∈ x.vars, ofN l v = i + 1 := fun v hv => ofN_mem ok hi (by rw [← hx]; exact hv)
  have hother : ∀ j, j < i → ∀ v ∈ (l.getD j node0).vars, v ∉ x.vars := fun j hj v hv hv2 => by
    have := ok.uniq i j v hi (by omega) (by rw [← hx]; exact hv2) hv
    omega
  by_cases ht : x.frm.any (fun y => decide (o (y / 2) < 0)) = true
  · have hn : told1 x.frm o = -1 := by unfold told1; rw [if_pos ht]
    rw [hn, if_pos (by omega)]
    obtain ⟨y, hy, hyo⟩ := List.any_eq_true.1 ht
    have hyo := of_decide_eq_true hyo
    have hbig : ∀ v ∈ x.vars, ∀ k, Lev l v k → r + 1 < k := fun v hv k hk => by
      obtain ⟨f, hf, rfl⟩ := hk.inv ok hi (by rw [← hx]; exact hv)
      rw [← hx] at hf ⊢
      have h1 := le_mx (f := f) y hy
      rcases Nat.lt_or_ge r (f y) with h2 | h2
      · omega
      · have := h.old (y / 2) (f y) (hfr y hy).1 (hfr y hy).2 (hf y hy) h2
        omega
    refine ⟨fun v hv => ?_, fun v h0 h1 h2 => ?_, fun v h0 h1 => ?_, fun v k h0 h1 hk hr => ?_, fun j hj v k hv hk hr => ?_, fun h0 => absurd h0 (by omega), fun _ => ⟨i, by omega, ?_⟩⟩
    · unfold put1; rw [if_neg (fun h' => by rw [hof v h'] at hv; cases hv)]; exact h.leaf v hv
    · unfold put1 at h2 ⊢
      by_cases hv : v ∈ x.vars
      · rw [if_pos hv] at h2; omega
      · rw [if_neg hv] at h2 ⊢; exact h.told v h0 h1 h2
    · unfold put1; split; omega; exact h.low v h0 h1
    · unfold put1
      rw [if_neg (fun hv => by have := hbig v hv k hk; omega)]
      exact h.old v k h0 h1 hk hr
    · unfold put1
      rcases Nat.lt_or_ge j i with hji | hji
      · rw [if_neg (hother j hji v hv)]; exact h.new j hji v k hv hk hr
      · obtain rfl : j = i := by omega
        rw [← hx] at hv
        have := hbig v hv k hk
        omega
    · rw [← hx]; exact hbig
  · have hn : told1 x.frm o = (mx x.frm (fun y => (o (y / 2)).toNat) : Int) + 1 := by unfold told1; rw [if_neg ht]
    rw [hn, if_neg (by omega)]
    have hall : ∀ y ∈ x.frm, 0 ≤ o (y / 2) := fun y hy => by
      rcases Int.lt_or_le (o (y / 2)) 0 with h1 | h1
      · exact absurd (List.any_eq_true.2 ⟨y, hy, decide_eq_true h1⟩) ht
      · exact h1
    have hlev : ∀ v ∈ x.vars, Lev l v (mx x.frm (fun y => (o (y / 2)).toNat) + 1) := fun v hv => by
      have := Lev.node v i (fun y => (o (y / 2)).toNat) hi (by rw [← hx]; exact hv) (by rw [← hx]; exact fun y hy => h.told (y / 2) (hfr y hy).1 (hfr y hy).2 (hall y hy))
      rwa [← hx] at this
    refine ⟨fun v hv => ?_, fun v h0 h1 h2 => ?_, fun v h0 h1 => ?_, fun v k h0 h1 hk hr => ?_, fun j hj v k hv hk hr => ?_, fun h0 j hj v hv => ?_, fun h0 => ?_⟩
    · unfold put1; rw [if_neg (fun h' => by rw [hof v h'] at hv; cases hv)]; exact h.leaf v hv
    · unfold put1 at h2 ⊢
      by_cases hv : v ∈ x.vars
      · rw [if_pos hv]
        have := hlev v hv
        rwa [show (((mx x.frm (fun y => (o (y / 2)).toNat) : Int) + 1).toNat) = mx x.frm (fun y => (o (y / 2)).toNat) + 1 by omega]
      · rw [if_neg hv] at h2 ⊢; exact h.told v h0 h1 h2
    · unfold put1; split; omega; exact h.low v h0 h1
    · unfold put1
      by_cases hv : v ∈ x.vars
      · rw [if_pos hv]
        have := (hlev v hv).uniq ok hk
        omega
      · rw [if_neg hv]; exact h.old v k h0 h1 hk hr
    · unfold put1
      rcases Nat.lt_or_ge j i with hji | hji
      · rw [if_neg (hother j hji v hv)]; exact h.new j hji v k hv hk hr
      · obtain rfl : j = i := by omega
        rw [← hx] at hv
        rw [if_pos hv]
        have := (hlev v hv).uniq ok hk
        omega
    · unfold put1
      rcases Nat.lt_or_ge j i with hji | hji
      · rw [if_neg (hother j hji v hv)]; exact h.none h0 j hji v hv
      · obtain rfl : j = i := by omega
        rw [← hx] at hv
        rw [if_pos hv]; omega
    · obtain ⟨j, hj, hb⟩ := h.some h0
      exact ⟨j, by omega, hb⟩
/-- The next round. -/
theorem RInv.next {l : List NodeD} {V r left : Nat} {o : Int → Int} (ok : NodesOK l V) (h : RInv l V r l.length left o) : RInv l V (r + 1) 0 0 o := by
  refine ⟨h.leaf, h.told, h.low, fun v k h0 h1 hk hr => ?_, fun j hj => absurd hj (by omega), fun _ j hj => absurd hj (by omega), fun h0 => absurd h0 (by omega)⟩
  cases hk with
  | leaf _ hl =>
    exact h.leaf v (by
      rcases Nat.eq_zero_or_pos (ofN l v) with h2 | h2
      · exact h2
      · obtain ⟨j, hj⟩ : ∃ j, ofN l v = j + 1 := ⟨ofN l v - 1, by omega⟩
        have := ofK_some hj
        exact absurd this.2 (hl j this.1))
  | node _ i f hi hv hf => exact h.new i hi v _ hv (.node v i f hi hv hf) hr
theorem RInv.start {l : List NodeD} {V : Nat} (ok : NodesOK l V) {o : Int → Int} (ho : ∀ v, o v = if ofN l v = 0 then 0 else -1) : RInv l V 0 0 0 o := by
  refine ⟨fun v hv => by rw [ho, if_pos hv], fun v h0 h1 h2 => ?_, fun v h0 h1 => by rw [ho]; split <;> omega, fun v k h0 h1 hk hr => ?_, fun j hj => absurd hj (by omega), fun _ j hj => absurd hj (by omega), fun h0 => absurd h0 (by omega)⟩
  · rw [ho] at h2 ⊢
    by_cases hv : ofN l v = 0
    · rw [if_pos hv]; exact ofN_leaf hv
    · rw [if_neg hv] at h2; omega
  · obtain rfl : k = 0 := by omega
    rw [ho, if_pos]
    · rfl
    · rcases Nat.eq_zero_or_pos (ofN l v) with h2 | h2
      · exact h2
      · obtain ⟨j, hj⟩ : ∃ j, ofN l v = j + 1 := ⟨ofN l v - 1, by omega⟩
        have := ofK_some hj
        obtain ⟨f, -, h3⟩ := hk.inv ok this.1 this.2
        omega
/-- Behind the last round. -/
theorem RInv.yes {l : List NodeD} {V r : Nat} {o : Int → Int} (ok : NodesOK l V) (h : RInv l V r l.length 0 o) : ∀ v : Int, 0 ≤ v → v ≤ V → 0 ≤ o v ∧ Lev l v (o v).toNat := fun v h0 h1 => by
  have : 0 ≤ o v := by
    rcases Nat.eq_zero_or_pos (ofN l v) with h2 | h2
    · rw [h.leaf v h2]; omega
    · obtain ⟨j, hj⟩ : ∃ j, ofN l v = j + 1 := ⟨ofN l v - 1, by omega⟩
      have := ofK_some hj
      exact h.none rfl j this.1 v this.2
  exact ⟨this, h.told v h0 h1 this⟩
theorem RInv.no {l : List NodeD} {V r left : Nat} {o : Int → Int} (ok : NodesOK l V) (h : RInv l V r l.length left o) (hr : l.length ≤ r) (hl : 0 < left) : ¬ Acyc l V := fun hA => by
  obtain ⟨j, hj, hb⟩ := h.some hl
  obtain ⟨v, hv⟩ := List.exists_mem_of_ne_nil _ (ok.vne j hj)
  have hvr := ok.vrng j hj v hv
  obtain ⟨k, hk⟩ := hA v (by omega) hvr.2
  have := hb v hv k hk
  have := hk.bound ok
  omega
end Go.Proofs.YtlahecdpcpejpaaDoor
/-
  PLAIN: what a visit does; which nodes there are.
-/
namespace Go.Proofs.YtlahecdpcpejpaaDoor
set_option linter.unusedVariables false
/-! ### a visit -/
structure VS (l : List NodeD) (V : Nat) (m lv : Int → Nat) : Prop where
  done : ∀ v : Int, 0 ≤ v → v ≤ V → m v = 2 → Lev l v (lv v)
  leaf : ∀ v : Int, ofN l v = 0 → m v = 0 ∧ lv v = 0
  same : ∀ i, i < l.length → ∀ u ∈ (l.getD i node0).vars, ∀ v ∈ (l.getD i node0).vars, m u = m v
  le2 : ∀ v, m v ≤ 2
theorem VS.start (l : List NodeD) (V : Nat) : VS l V (fun _ => 0) (fun _ => 0) := ⟨(fun _ _ _ h => by cases h), (fun _ _ => ⟨rfl, rfl⟩), (fun _ _ _ _ _ _ => rfl), (fun _ => by omega)⟩
/-- v lies below all that are under way. -/
def Under (l : List NodeD) (V : Nat) (m : Int → Nat) (v : Int) : Prop := ∀ u : Int, 0 ≤ u → u ≤ V → m u = 1 → ∀ k, Lev l u k → ∃ j, j < k ∧ Lev l v j
structure VYes (l : List NodeD) (V : Nat) (m : Int → Nat) (v : Int) (m' lv' : Int → Nat) : Prop where
  vs : VS l V m' lv'
  lev : Lev l v (lv' v)
  keep : ∀ u, m u ≠ 0 → m' u = m u
  one : ∀ u, m' u = 1 → m u = 1
  told : ofN l v = 0 ∨ m' v = 2
/-- How many are not marked. -/
def cnt (V : Nat) (m : Int → Nat) : Nat := (List.range (V + 1)).countP fun (i : Nat) => decide (m (i : Int) = 0)
theorem cnt_le {V : Nat} {m m' : Int → Nat} (h : ∀ u, m u ≠ 0 → m' u ≠ 0) : cnt V m' ≤ cnt V m := by
  unfold cnt
  refine List.countP_mono_left fun i _ hi => ?_
  have := of_decide_eq_true hi
  exact decide_eq_true (Classical.byContradiction fun h0 => h _ h0 this)
theorem countP_lt {l : List Nat} {p q : Nat → Bool} (h : ∀ x ∈ l, p x = true → q x = true) {a : Nat} (ha : a ∈ l) (hp : p a = false) (hq : q a = true) : l.countP p < l.countP q := by
  induction l with
  | nil => cases ha
  | cons b l ih =>
    rw [List.countP_cons, List.countP_cons]
    have hle : l.countP p ≤ l.countP q := List.countP_mono_left fun x hx => h x (List.mem_cons_of_mem _ hx)
    rcases List.mem_cons.1 ha with rfl | ha
    · rw [hp, hq]; simp; omega
    · have := ih (fun x hx => h x (List.mem_cons_of_mem _ hx)) ha
      have hb := h b (List.mem_cons_self ..)
      cases hpb : p b
      · simp; omega
      · rw [hb hpb]; simp; omega
theorem cnt_lt {V : Nat} {m m' : Int → Nat} (h : ∀ u, m u ≠ 0 → m' u ≠ 0) {v : Nat} (hv : v ≤ V) (h0 : m v = 0) (h1 : m' v ≠ 0) : cnt V m' < cnt V m := by
  unfold cnt
  refine countP_lt (a := v) (fun i _ hi => ?_) (List.mem_range.2 (by omega)) (decide_eq_false h1) (decide_eq_true h0)
  have := of_decide_eq_true hi
  exact decide_eq_true (Classical.byContradiction fun h0 => h _ h0 this)
/-- Marks of some variables. -/
def putM (vs : List Int) (n : Nat) (m : Int → Nat) (v : Int) : Nat := if v ∈ vs then n else m v
section
variable {l : List NodeD} {V : Nat} {m lv : Int → Nat} {v : Int} {i : Nat}
theorem VS.same1 (ok : NodesOK l V) (h : VS l V m lv) {n : Nat} (hn : n ≤ 1) (hi : i < l.length) : VS l V (putM (l.getD i node0).vars n m) lv := by
  refine ⟨fun u h0 h1 h2 => ?_, fun u hu => ?_, fun j hj a ha b hb => ?_, fun u => ?_⟩
  · unfold putM at h2
    by_cases hu : u ∈ (l.getD i node0).vars
    · rw [if_pos hu] at h2; omega
    · rw [if_neg hu] at h2; exact h.done u h0 h1 h2
  · unfold putM
    rw [if_neg (fun h' => by rw [ofN_mem ok hi h'] at hu; cases hu)]
    exact h.leaf u hu
  · unfold putM
    by_cases hji : j = i
    · subst hji; rw [if_pos ha, if_pos hb]
    · rw [if_neg (fun h' => hji (ok.uniq j i a hj hi ha h')), if_neg (fun h' => hji (ok.uniq j i b hj hi hb h'))]
      exact h.same j hj a ha b hb
  · unfold putM; split; omega; exact h.le2 u
/-- What lies under a node that is entered. -/
theorem Under.enter (ok : NodesOK l V) (hU : Under l V m v) (hi : i < l.length) (hv : v ∈ (l.getD i node0).vars) {y : Int} (hy : y ∈ (l.getD i node0).frm) : Under l V (putM (l.getD i node0).vars 1 m) (y / 2) := by
  have key : ∀ u ∈ (l.getD i node0).vars, ∀ k, Lev l u k → ∃ j, j < k ∧ Lev l (y / 2) j := fun u hu k hk => by
    obtain ⟨f, hf, rfl⟩ := hk.inv ok hi hu
    exact ⟨f y, by have := le_mx (f := f) y hy; omega, hf y hy⟩
  intro u h0 h1 h2 k hk
  unfold putM at h2
  by_cases hu : u ∈ (l.getD i node0).vars
  · exact key u hu k hk
  · rw [if_neg hu] at h2
    obtain ⟨j, hj, hLj⟩ := hU u h0 h1 h2 k hk
    obtain ⟨j', hj', hL'⟩ := key v hv j hLj
    exact ⟨j', by omega, hL'⟩
theorem Under.mono (h : Under l V m v) {m' : Int → Nat} (h1 : ∀ u, m' u = 1 → m u = 1) : Under l V m' v := fun u h0 h2 h3 => h u h0 h2 (h1 u h3)
/-- A variable that is met under way hangs on itself. -/
theorem under_no (ok : NodesOK l V) (hU : Under l V m v) (h0 : 0 ≤ v) (h1 : v ≤ V) (h2 : m v = 1) : ∀ k, ¬ Lev l v k := fun k hk => by
  obtain ⟨j, hj, hL⟩ := hU v h0 h1 h2 k hk
  have := hL.uniq ok hk
  omega
theorem from_no (ok : NodesOK l V) (hi : i < l.length) (hv : v ∈ (l.getD i node0).vars) {y : Int} (hy : y ∈ (l.getD i node0).frm) (hn : ∀ k, ¬ Lev l (y / 2) k) : ∀ k, ¬ Lev l v k := fun k hk => by
  obtain ⟨f, hf, -⟩ := hk.inv ok hi hv
  exact hn _ (hf y hy)
/-- Behind a node's literals: its variables are told. -/
theorem VYes.leave (ok : NodesOK l V) (hi : i < l.length) (hv : v ∈ (l.getD i node0).vars) (hvs : VS l V m lv) (h0 : m v = 0) {m2 lv2 : Int → Nat} (h2 : VS l V m2 lv2)
    (hk : ∀ u, putM (l.getD i node0).vars 1 m u ≠ 0 → m2 u = putM (l.getD i node0).vars 1 m u) (ho : ∀ u, m2 u = 1 → putM (l.getD i node0).vars 1 m u = 1)
    (f : Int → Nat) (hf : ∀ y ∈ (l.getD i node0).frm, Lev l (y / 2) (f y)) :
    VYes l V m v (putM (l.getD i node0).vars 2 m2) (putM (l.getD i node0).vars (mx (l.getD i node0).frm f + 1) lv2) := by
  have hL : ∀ u ∈ (l.getD i node0).vars, Lev l u (mx (l.getD i node0).frm f + 1) := fun u hu => .node u i f hi hu hf
  refine ⟨⟨fun u h0 h1 hu2 => ?_, fun u hu => ?_, fun j hj a ha b hb => ?_, fun u => ?_⟩, ?_, fun u hu => ?_, fun u hu => ?_, .inr (by unfold putM; rw [if_pos hv])⟩
  · unfold putM at hu2 ⊢
    by_cases hu : u ∈ (l.getD i node0).vars
    · rw [if_pos hu]; exact hL u hu
    · rw [if_neg hu] at hu2 ⊢; exact h2.done u h0 h1 hu2
  · have hn : u ∉ (l.getD i node0).vars := fun h' => by rw [ofN_mem ok hi h'] at hu; cases hu
    unfold putM; rw [if_neg hn, if_neg hn]; exact h2.leaf u hu
  · unfold putM
    by_cases hji : j = i
    · subst hji; rw [if_pos ha, if_pos hb]
    · rw [if_neg (fun h' => hji (ok.uniq j i a hj hi ha h')), if_neg (fun h' => hji (ok.uniq j i b hj hi hb h'))]
      exact h2.same j hj a ha b hb
  · unfold putM; split; omega; exact h2.le2 u
  · unfold putM; rw [if_pos hv]; exact hL v hv
  · have hn : u ∉ (l.getD i node0).vars := fun h' => hu ((hvs.same i hi u h' v hv).trans h0)
    have := hk u (by unfold putM; rw [if_neg hn]; exact hu)
    unfold putM at this ⊢
    rw [if_neg hn] at this ⊢; exact this
  · unfold putM at hu
    by_cases hm : u ∈ (l.getD i node0).vars
    · rw [if_pos hm] at hu; omega
    · rw [if_neg hm] at hu
      have := ho u hu
      unfold putM at this
      rwa [if_neg hm] at this
theorem VYes.trivial (hvs : VS l V m lv) (h0 : 0 ≤ v) (h1 : v ≤ V) (h : ofN l v = 0 ∨ m v = 2) : VYes l V m v m lv := by
  refine ⟨hvs, ?_, fun _ _ => rfl, fun _ h => h, h⟩
  rcases h with h | h
  · rw [(hvs.leaf v h).2]; exact ofN_leaf h
  · exact hvs.done v h0 h1 h
end
/-! ### which nodes there are -/
theorem getD_mapIdx {α β : Type} (f : Nat → α → β) (l : List α) (d : β) (e : α) {i : Nat} (h : i < l.length) : (l.mapIdx f).getD i d = f i (l.getD i e) := by
  simp [List.getD, h]
/-- A node is an and, or a port. -/
def isNode (d : NetD) (x : NodeD) : Prop :=
  (x.pos < d.ands.length ∧ x = andNode x.pos (d.ands.getD x.pos tri0)) ∨
  (x.mem < d.mems.length ∧ x.pos < (d.mems.getD x.mem mem0).rd.length ∧ x = rdNode x.mem (d.mems.getD x.mem mem0).word x.pos ((d.mems.getD x.mem mem0).rd.getD x.pos rd0))
theorem isNode_mem {d : NetD} {x : NodeD} (h : x ∈ nodesN d) : isNode d x := by
  unfold nodesN at h
  rcases List.mem_append.1 h with h | h
  · obtain ⟨i, hi, rfl⟩ := List.getElem_of_mem h
    have hi' : i < d.ands.length := by simpa using hi
    left
    simp [andNode, hi']
  · obtain ⟨ys, hys, hx⟩ := List.mem_flatten.1 h
    obtain ⟨i, hi, rfl⟩ := List.getElem_of_mem hys
    have hi' : i < d.mems.length := by simpa using hi
    rw [List.getElem_mapIdx] at hx
    obtain ⟨k, hk, rfl⟩ := List.getElem_of_mem hx
    have hk' : k < d.mems[i].rd.length := by simpa [memNodes] using hk
    right
    simp [memNodes, rdNode, hi', hk']
theorem isNode_at {d : NetD} {i : Nat} (h : i < (nodesN d).length) : isNode d ((nodesN d).getD i node0) := by
  have : (nodesN d).getD i node0 = (nodesN d)[i] := by simp [List.getD, h]
  rw [this]
  exact isNode_mem (List.getElem_mem h)
theorem flatten_vars (d : NetD) : (nodesN d).flatMap (·.vars) = d.ands.map (·.1) ++ d.mems.flatMap memDef := by
  unfold nodesN
  rw [List.flatMap_append]
  congr 1
  · have : ∀ (l : List Tri) (f : Nat → Nat), (l.mapIdx fun i a => andNode (f i) a).flatMap (·.vars) = l.map (·.1) := by
      intro l
      induction l with
      | nil => intro f; rfl
      | cons a l ih => intro f; rw [List.mapIdx_cons, List.flatMap_cons]; rw [show (fun i => andNode (f (i + 1))) = (fun i => andNode ((fun j => f (j + 1)) i)) from rfl, ih]; rfl
    exact this d.ands id
  · have h1 : ∀ (m : Nat) (w : Int) (l : List RdD) (f : Nat → Nat), (l.mapIdx fun k r => rdNode m w (f k) r).flatMap (·.vars) = l.flatMap fun r => dataM r.1 w := by
      intro m w l
      induction l with
      | nil => intro f; rfl
      | cons a l ih => intro f; rw [List.mapIdx_cons, List.flatMap_cons]; rw [show (fun i => rdNode m w (f (i + 1))) = (fun i => rdNode m w ((fun j => f (j + 1)) i)) from rfl, ih]; rfl
    have h2 : ∀ (l : List MemD) (f : Nat → Nat), (l.mapIdx fun i x => memNodes (f i) x).flatten.flatMap (·.vars) = l.flatMap memDef := by
      intro l
      induction l with
      | nil => intro f; rfl
      | cons a l ih =>
        intro f
        rw [List.mapIdx_cons, List.flatten_cons, List.flatMap_append]
        rw [show (fun i => memNodes (f (i + 1))) = (fun i => memNodes ((fun j => f (j + 1)) i)) from rfl, ih, List.flatMap_cons]
        congr 1
        exact h1 (f 0) a.word a.rd id
    exact h2 d.mems id
theorem flatMap_uniq {α β : Type} {f : α → List β} (d : α) : ∀ {l : List α}, (l.flatMap f).Nodup → ∀ i j v, i < l.length → j < l.length → v ∈ f (l.getD i d) → v ∈ f (l.getD j d) → i = j
  | [], _, i, _, _, hi, _, _, _ => absurd hi (by simp)
  | a :: l, hn, i, j, v, hi, hj, h1, h2 => by
    rw [List.flatMap_cons] at hn
    obtain ⟨n1, n2, n3⟩ := List.nodup_append.1 hn
    have hm : ∀ k, k < l.length → v ∈ f (l.getD k d) → v ∈ l.flatMap f := fun k hk h => List.mem_flatMap.2 ⟨l.getD k d, by simp [List.getD, hk], h⟩
    match i, j with
    | 0, 0 => rfl
    | 0, j + 1 => exact absurd rfl (n3 v (by simpa using h1) v (hm j (by simpa using hj) (by simpa using h2)))
    | i + 1, 0 => exact absurd rfl (n3 v (by simpa using h2) v (hm i (by simpa using hi) (by simpa using h1)))
    | i + 1, j + 1 =>
      have := flatMap_uniq d n2 i j v (by simpa using hi) (by simpa using hj) (by simpa using h1) (by simpa using h2)
      omega
/-- What a netlist that is sound has. -/
structure SoundD (d : NetD) (V : Nat) : Prop where
  vars : d.vars = V
  lim : V ≤ 2000
  defs : Defs V (definedN d)
  all : ∀ v : Int, 1 ≤ v → v ≤ V → v ∈ definedN d
  lits : ∀ x ∈ literalsN d, 0 ≤ x ∧ x ≤ 2 * (V : Int) + 1
  word : ∀ m ∈ d.mems, 1 ≤ m.word ∧ m.word ≤ 64
  ands : d.ands.length ≤ 2000
  mems : d.mems.length ≤ 4
  rds : ∀ m ∈ d.mems, m.rd.length ≤ 4
theorem soundN_ok {d : NetD} (h : soundN d = 0) : ∃ V, SoundD d V := by
  unfold soundN at h
  by_cases h1 : limitsN d = true
  · rw [if_pos h1] at h; cases h
  rw [if_neg h1] at h
  by_cases h2 : d.mems.any wideN = true
  · rw [if_pos h2] at h; cases h
  rw [if_neg h2] at h
  by_cases h3 : d.lat.any badL = true
  · rw [if_pos h3] at h; cases h
  rw [if_neg h3] at h
  by_cases h4 : definesN d.vars (definedN d) [] ≠ 0
  · rw [if_pos h4] at h; exact absurd h h4
  rw [if_neg h4] at h
  by_cases h5 : (literalsN d).any (badX d.vars) = true
  · rw [if_pos h5] at h; cases h
  clear h h3
  have h1 : limitsN d = false := by simpa using h1
  unfold limitsN at h1
  rw [Bool.or_eq_false_iff, Bool.or_eq_false_iff] at h1
  obtain ⟨⟨l1, l2⟩, l3⟩ := h1
  have l1 := of_decide_eq_false l1
  have l3 := of_decide_eq_false l3
  have h4 : definesN d.vars (definedN d) [] = 0 := Classical.byContradiction fun h => h4 h
  obtain ⟨V, hV⟩ : ∃ V : Nat, d.vars = V := ⟨d.vars.toNat, by omega⟩
  rw [hV] at h4 h5 l1
  obtain ⟨d1, d2⟩ := definesN_ok (Defs.nil _) h4
  rw [List.append_nil] at d1
  refine ⟨V, hV, by omega, d1, fun v a b => (d2 v a b).resolve_right (fun h => by cases h), fun x hx => ?_, fun m hm => ?_, by omega, by omega, fun m hm => ?_⟩
  · have : badX V x = false := by
      cases hb : badX V x
      · rfl
      · exact absurd (List.any_eq_true.2 ⟨x, hx, hb⟩) h5
    have := of_decide_eq_false this
    omega
  · have : wideN m = false := by
      cases hb : wideN m
      · rfl
      · exact absurd (List.any_eq_true.2 ⟨m, hm, hb⟩) h2
    unfold wideN at this
    rw [Bool.or_eq_false_iff, Bool.or_eq_false_iff] at this
    have := of_decide_eq_false this.1.1
    omega
  · have : limM m = false := by
      cases hb : limM m
      · rfl
      · exact absurd (List.any_eq_true.2 ⟨m, hm, hb⟩) (by rw [l2]; decide)
    have := of_decide_eq_false this
    omega
theorem mem_getD {α : Type} {l : List α} {i : Nat} (d : α) (h : i < l.length) : l.getD i d ∈ l := by simp [List.getD, h]
theorem SoundD.nodes {d : NetD} {V : Nat} (h : SoundD d V) : NodesOK (nodesN d) V := by
  have hfl := flatten_vars d
  have hmem : ∀ v, v ∈ d.ands.map (·.1) ++ d.mems.flatMap memDef → v ∈ definedN d := fun v hv => by
    unfold definedN
    rcases List.mem_append.1 hv with h1 | h1
    · exact List.mem_append_right _ h1
    · exact List.mem_append_left _ (List.mem_append_right _ h1)
  have hnd : ((nodesN d).flatMap (·.vars)).Nodup := by
    rw [hfl]
    have hp : (d.ands.map (·.1) ++ d.mems.flatMap memDef).Perm (d.mems.flatMap memDef ++ d.ands.map (·.1)) := List.perm_append_comm
    rw [hp.nodup_iff]
    have h1 := h.defs.nd
    unfold definedN at h1
    rw [List.append_assoc] at h1
    exact (List.nodup_append.1 h1).2.1
  refine ⟨fun i j v hi hj h1 h2 => flatMap_uniq node0 hnd i j v hi hj h1 h2, fun i hi v hv => ?_, fun i hi y hy => ?_, fun i hi => ?_⟩
  · refine h.defs.rng v (hmem v ?_)
    rw [← hfl]
    exact List.mem_flatMap.2 ⟨_, mem_getD _ hi, hv⟩
  · refine h.lits y ?_
    unfold literalsN
    rcases isNode_at hi with ⟨hp, he⟩ | ⟨hm, hp, he⟩
    · rw [he] at hy
      refine List.mem_append_right _ (List.mem_flatMap.2 ⟨_, mem_getD tri0 hp, hy⟩)
    · rw [he] at hy
      refine List.mem_append_left _ (List.mem_append_right _ (List.mem_flatMap.2 ⟨_, mem_getD mem0 hm, ?_⟩))
      unfold memLit
      exact List.mem_append_left _ (List.mem_flatMap.2 ⟨_, mem_getD rd0 hp, hy⟩)
  · rcases isNode_at hi with ⟨hp, he⟩ | ⟨hm, hp, he⟩
    · rw [he]; simp [andNode]
    · rw [he]
      have := h.word _ (mem_getD mem0 hm)
      intro h0
      have h2 := congrArg List.length h0
      simp [rdNode, dataM] at h2
      simp [List.getD] at this h2
      omega
end Go.Proofs.YtlahecdpcpejpaaDoor
