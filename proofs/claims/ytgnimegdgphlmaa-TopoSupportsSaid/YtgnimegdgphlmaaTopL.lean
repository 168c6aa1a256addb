/-
  PLAIN: levels of nodes: what they are, that they are one, and how the document's rounds find them.
-/
import Derived.Test.YtgnimegdgphlmaaNetP
namespace Go.Proofs.Ytgnimegdgphlmaa
set_option linter.unusedVariables false
structure NodesOK (l : List NodeD) (V : Nat) : Prop where
  uniq : ∀ i j v, i < l.length → j < l.length → v ∈ (l.getD i node0).vars → v ∈ (l.getD j node0).vars → i = j
  vrng : ∀ i, i < l.length → ∀ v ∈ (l.getD i node0).vars, 1 ≤ v ∧ v ≤ (V : Int)
  frng : ∀ i, i < l.length → ∀ y ∈ (l.getD i node0).frm, 0 ≤ y ∧ y ≤ 2 * (V : Int) + 1
  vne : ∀ i, i < l.length → (l.getD i node0).vars ≠ []
def mx (frm : List Int) (f : Int → Nat) : Nat := frm.foldl (fun a y => max a (f y)) 0
theorem mx_snoc (frm : List Int) (y : Int) (f : Int → Nat) : mx (frm ++ [y]) f = max (mx frm f) (f y) := by unfold mx; rw [List.foldl_append]; rfl
theorem mx_snocInd {C : List Int → Prop} (h0 : C []) (h1 : ∀ l y, C l → C (l ++ [y])) (l : List Int) : C l := by
  have : ∀ m : List Int, C m.reverse := fun m => by
    induction m with
    | nil => exact h0
    | cons y m ih => rw [List.reverse_cons]; exact h1 _ _ ih
  simpa using this l.reverse
theorem mx_congr {frm : List Int} {f g : Int → Nat} (h : ∀ y ∈ frm, f y = g y) : mx frm f = mx frm g := by
  revert h
  refine mx_snocInd (C := fun l => (∀ y ∈ l, f y = g y) → mx l f = mx l g) (fun _ => rfl) (fun l y ih h => ?_) frm
  rw [mx_snoc, mx_snoc, ih (fun z hz => h z (by simp [hz])), h y (by simp)]
theorem le_mx {frm : List Int} {f : Int → Nat} : ∀ y ∈ frm, f y ≤ mx frm f := by
  refine mx_snocInd (C := fun l => ∀ y ∈ l, f y ≤ mx l f) (fun _ h => by cases h) (fun l y ih z hz => ?_) frm
  rw [mx_snoc]
  rcases List.mem_append.1 hz with h | h
  · have := ih z h; omega
  · simp at h; subst h; omega
theorem mx_hit (frm : List Int) (f : Int → Nat) : mx frm f = 0 ∨ ∃ y ∈ frm, f y = mx frm f := by
  refine mx_snocInd (C := fun l => mx l f = 0 ∨ ∃ y ∈ l, f y = mx l f) (.inl rfl) (fun l y ih => ?_) frm
  rw [mx_snoc]
  rcases Nat.le_total (mx l f) (f y) with h | h
  · exact .inr ⟨y, by simp, by omega⟩
  · rcases ih with h0 | ⟨z, hz, he⟩
    · left; omega
    · exact .inr ⟨z, by simp [hz], by omega⟩
/-- A variable's level. -/
inductive Lev (l : List NodeD) : Int → Nat → Prop
  | leaf (v : Int) : (∀ i, i < l.length → v ∉ (l.getD i node0).vars) → Lev l v 0
  | node (v : Int) (i : Nat) (f : Int → Nat) : i < l.length → v ∈ (l.getD i node0).vars → (∀ y ∈ (l.getD i node0).frm, Lev l (y / 2) (f y)) → Lev l v (mx (l.getD i node0).frm f + 1)
/-- What a node's variable's level comes from. -/
theorem Lev.inv {l : List NodeD} {V : Nat} (ok : NodesOK l V) {v : Int} {k i : Nat} (h : Lev l v k) (hi : i < l.length) (hv : v ∈ (l.getD i node0).vars) :
    ∃ f, (∀ y ∈ (l.getD i node0).frm, Lev l (y / 2) (f y)) ∧ k = mx (l.getD i node0).frm f + 1 := by
  cases h with
  | leaf _ h => exact absurd hv (h i hi)
  | node _ j f hj hvj hf =>
    obtain rfl := ok.uniq i j v hi hj hv hvj
    exact ⟨f, hf, rfl⟩
theorem Lev.uniq {l : List NodeD} {V : Nat} (ok : NodesOK l V) {v : Int} {k : Nat} (h : Lev l v k) : ∀ {k' : Nat}, Lev l v k' → k = k' := by
  induction h with
  | leaf v h =>
    intro k' h'
    cases h' with
    | leaf _ _ => rfl
    | node _ j f hj hvj hf => exact absurd hvj (h j hj)
  | node v i f hi hv hf ih =>
    intro k' h'
    obtain ⟨g, hg, rfl⟩ := h'.inv ok hi hv
    rw [mx_congr (fun y hy => ih y hy (hg y hy))]
/-- Levels go no higher than there are nodes. -/
theorem Lev.chain {l : List NodeD} {V : Nat} (ok : NodesOK l V) {v : Int} {k : Nat} (h : Lev l v k) :
    ∃ ns : List Nat, ns.Nodup ∧ ns.length = k ∧ ∀ i ∈ ns, i < l.length ∧ ∃ u ∈ (l.getD i node0).vars, ∃ j, j ≤ k ∧ Lev l u j := by
  induction h with
  | leaf v h => exact ⟨[], List.nodup_nil, rfl, fun _ h => by cases h⟩
  | node v i f hi hv hf ih =>
    have hLv : Lev l v (mx (l.getD i node0).frm f + 1) := .node v i f hi hv hf
    rcases mx_hit (l.getD i node0).frm f with h0 | ⟨y, hy, he⟩
    · exact ⟨[i], by simp, by rw [h0]; rfl, fun j hj => by simp at hj; subst hj; exact ⟨hi, v, hv, _, Nat.le_refl _, hLv⟩⟩
    · obtain ⟨ns, h1, h2, h3⟩ := ih y hy
      refine ⟨i :: ns, List.nodup_cons.2 ⟨fun hin => ?_, h1⟩, by rw [List.length_cons, h2, he], fun j hj => ?_⟩
      · obtain ⟨-, u, hu, j, hj, hL⟩ := h3 i hin
        have : Lev l u (mx (l.getD i node0).frm f + 1) := .node u i f hi hu hf
        have := hL.uniq ok this
        omega
      · rcases List.mem_cons.1 hj with rfl | hj
        · exact ⟨hi, v, hv, _, Nat.le_refl _, hLv⟩
        · obtain ⟨a, u, b, j', c, d⟩ := h3 j hj
          exact ⟨a, u, b, j', by omega, d⟩
theorem Lev.bound {l : List NodeD} {V : Nat} (ok : NodesOK l V) {v : Int} {k : Nat} (h : Lev l v k) : k ≤ l.length := by
  obtain ⟨ns, h1, h2, h3⟩ := h.chain ok
  have := nodup_le (b := List.range l.length) h1 (fun i hi => List.mem_range.2 (h3 i hi).1)
  rw [List.length_range] at this
  omega
/-- Which node defines a variable, of the first k: its number and one, or 0. -/
def ofK (l : List NodeD) : Nat → Int → Nat
  | 0, _ => 0
  | k + 1, v => if v ∈ (l.getD k node0).vars then k + 1 else ofK l k v
theorem ofK_le (l : List NodeD) (v : Int) : ∀ k, ofK l k v ≤ k
  | 0 => Nat.le_refl _
  | k + 1 => by unfold ofK; split; exact Nat.le_refl _; have := ofK_le l v k; omega
theorem ofK_some {l : List NodeD} {v : Int} : ∀ {k i : Nat}, ofK l k v = i + 1 → i < k ∧ v ∈ (l.getD i node0).vars
  | 0, i, h => by cases h
  | k + 1, i, h => by
    unfold ofK at h
    by_cases hv : v ∈ (l.getD k node0).vars
    · rw [if_pos hv] at h
      obtain rfl : k = i := by omega
      exact ⟨by omega, hv⟩
    · rw [if_neg hv] at h
      have := ofK_some h
      exact ⟨by omega, this.2⟩
theorem ofK_zero {l : List NodeD} {v : Int} : ∀ {k : Nat}, ofK l k v = 0 → ∀ i, i < k → v ∉ (l.getD i node0).vars
  | 0, _, i, hi => absurd hi (by omega)
  | k + 1, h, i, hi => by
    unfold ofK at h
    by_cases hv : v ∈ (l.getD k node0).vars
    · rw [if_pos hv] at h; cases h
    · rw [if_neg hv] at h
      rcases Nat.lt_or_ge i k with h1 | h1
      · exact ofK_zero h i h1
      · rw [show i = k by omega]; exact hv
def ofN (l : List NodeD) (v : Int) : Nat := ofK l l.length v
theorem ofN_leaf {l : List NodeD} {v : Int} (h : ofN l v = 0) : Lev l v 0 := .leaf v (ofK_zero h)
theorem ofN_mem {l : List NodeD} {V : Nat} (ok : NodesOK l V) {v : Int} {i : Nat} (hi : i < l.length) (hv : v ∈ (l.getD i node0).vars) : ofN l v = i + 1 := by
  rcases Nat.eq_zero_or_pos (ofN l v) with h | h
  · exact absurd hv (ofK_zero h i hi)
  · obtain ⟨j, hj⟩ : ∃ j, ofN l v = j + 1 := ⟨ofN l v - 1, by omega⟩
    have := ofK_some hj
    rw [hj, ok.uniq i j v hi this.1 hv this.2]
/-- Nothing hangs on itself. -/
def Acyc (l : List NodeD) (V : Nat) : Prop := ∀ v : Int, 0 ≤ v → v ≤ V → ∃ k, Lev l v k
/-! ### the document's rounds -/
/-- A node's level, by those that are told (below 0: not yet). -/
def told1 (frm : List Int) (o : Int → Int) : Int := if frm.any (fun y => decide (o (y / 2) < 0)) = true then -1 else (mx frm (fun y => (o (y / 2)).toNat) : Int) + 1
structure RInv (l : List NodeD) (V : Nat) (r i left : Nat) (o : Int → Int) : Prop where
  leaf : ∀ v : Int, ofN l v = 0 → o v = 0
  told : ∀ v : Int, 0 ≤ v → v ≤ V → 0 ≤ o v → Lev l v (o v).toNat
  low : ∀ v : Int, 0 ≤ v → v ≤ V → -1 ≤ o v
  old : ∀ (v : Int) k, 0 ≤ v → v ≤ V → Lev l v k → k ≤ r → o v = k
  new : ∀ j, j < i → ∀ (v : Int) k, v ∈ (l.getD j node0).vars → Lev l v k → k ≤ r + 1 → o v = k
  none : left = 0 → ∀ j, j < i → ∀ v ∈ (l.getD j node0).vars, 0 ≤ o v
  some : 0 < left → ∃ j, j < i ∧ ∀ v ∈ (l.getD j node0).vars, ∀ k, Lev l v k → r + 1 < k
/-- The node's variables get their level. -/
def put1 (vs : List Int) (n : Int) (o : Int → Int) (v : Int) : Int := if v ∈ vs then n else o v
theorem RInv.step {l : List NodeD} {V r i left : Nat} {o : Int → Int} (ok : NodesOK l V) (h : RInv l V r i left o) (hi : i < l.length) :
    RInv l V r (i + 1) (if told1 (l.getD i node0).frm o < 0 then left + 1 else left) (put1 (l.getD i node0).vars (told1 (l.getD i node0).frm o) o) := by
  obtain ⟨x, hx⟩ : ∃ x, x = l.getD i node0 := ⟨_, rfl⟩
  rw [← hx]
  have hfr : ∀ y ∈ x.frm, 0 ≤ y / 2 ∧ y / 2 ≤ (V : Int) := fun y hy => by have := ok.frng i hi y (by rw [← hx]; exact hy); omega
  have hvr : ∀ v ∈ x.vars, 1 ≤ v ∧ v ≤ (V : Int) := fun v hv => ok.vrng i hi v (by rw [← hx]; exact hv)
  have hof : ∀ v ∈ x.vars, ofN l v = i + 1 := fun v hv => ofN_mem ok hi (by rw [← hx]; exact hv)
  have hother : ∀ j, j < i → ∀ v ∈ (l.getD j node0).vars, v ∉ x.vars := fun j hj v hv hv2 => by
    have := ok.uniq i j v hi (by omega) (by rw [← hx]; exact hv2) hv
    omega
  by_cases ht : x.frm.any (fun y => decide (o (y / 2) < 0)) = true
  · have hn : told1 x.frm o = -1 := by unfold told1; rw [if_pos ht]
    rw [hn, if_pos (by omega)]
    obtain ⟨y, hy, hyo⟩ := List.any_eq_true.1 ht
    have hyo := of_decide_eq_true hyo
    have hbig : ∀ v ∈ x.vars, ∀ k, Lev l v k → r + 1 < k := fun v hv k hk => by
      obtain ⟨f, hf, rfl⟩ := hk.inv ok hi (by rw [← hx]; exact hv)
      rw [← hx] at hf ⊢
      have h1 := le_mx (f := f) y hy
      rcases Nat.lt_or_ge r (f y) with h2 | h2
      · omega
      · have := h.old (y / 2) (f y) (hfr y hy).1 (hfr y hy).2 (hf y hy) h2
        omega
    refine ⟨fun v hv => ?_, fun v h0 h1 h2 => ?_, fun v h0 h1 => ?_, fun v k h0 h1 hk hr => ?_, fun j hj v k hv hk hr => ?_, fun h0 => absurd h0 (by omega), fun _ => ⟨i, by omega, ?_⟩⟩
    · unfold put1; rw [if_neg (fun h' => by rw [hof v h'] at hv; cases hv)]; exact h.leaf v hv
    · unfold put1 at h2 ⊢
      by_cases hv : v ∈ x.vars
      · rw [if_pos hv] at h2; omega
      · rw [if_neg hv] at h2 ⊢; exact h.told v h0 h1 h2
    · unfold put1; split; omega; exact h.low v h0 h1
    · unfold put1
      rw [if_neg (fun hv => by have := hbig v hv k hk; omega)]
      exact h.old v k h0 h1 hk hr
    · unfold put1
      rcases Nat.lt_or_ge j i with hji | hji
      · rw [if_neg (hother j hji v hv)]; exact h.new j hji v k hv hk hr
      · obtain rfl : j = i := by omega
        rw [← hx] at hv
        have := hbig v hv k hk
        omega
    · rw [← hx]; exact hbig
  · have hn : told1 x.frm o = (mx x.frm (fun y => (o (y / 2)).toNat) : Int) + 1 := by unfold told1; rw [if_neg ht]
    rw [hn, if_neg (by omega)]
    have hall : ∀ y ∈ x.frm, 0 ≤ o (y / 2) := fun y hy => by
      rcases Int.lt_or_le (o (y / 2)) 0 with h1 | h1
      · exact absurd (List.any_eq_true.2 ⟨y, hy, decide_eq_true h1⟩) ht
      · exact h1
    have hlev : ∀ v ∈ x.vars, Lev l v (mx x.frm (fun y => (o (y / 2)).toNat) + 1) := fun v hv => by
      have := Lev.node v i (fun y => (o (y / 2)).toNat) hi (by rw [← hx]; exact hv) (by rw [← hx]; exact fun y hy => h.told (y / 2) (hfr y hy).1 (hfr y hy).2 (hall y hy))
      rwa [← hx] at this
    refine ⟨fun v hv => ?_, fun v h0 h1 h2 => ?_, fun v h0 h1 => ?_, fun v k h0 h1 hk hr => ?_, fun j hj v k hv hk hr => ?_, fun h0 j hj v hv => ?_, fun h0 => ?_⟩
    · unfold put1; rw [if_neg (fun h' => by rw [hof v h'] at hv; cases hv)]; exact h.leaf v hv
    · unfold put1 at h2 ⊢
      by_cases hv : v ∈ x.vars
      · rw [if_pos hv]
        have := hlev v hv
        rwa [show (((mx x.frm (fun y => (o (y / 2)).toNat) : Int) + 1).toNat) = mx x.frm (fun y => (o (y / 2)).toNat) + 1 by omega]
      · rw [if_neg hv] at h2 ⊢; exact h.told v h0 h1 h2
    · unfold put1; split; omega; exact h.low v h0 h1
    · unfold put1
      by_cases hv : v ∈ x.vars
      · rw [if_pos hv]
        have := (hlev v hv).uniq ok hk
        omega
      · rw [if_neg hv]; exact h.old v k h0 h1 hk hr
    · unfold put1
      rcases Nat.lt_or_ge j i with hji | hji
      · rw [if_neg (hother j hji v hv)]; exact h.new j hji v k hv hk hr
      · obtain rfl : j = i := by omega
        rw [← hx] at hv
        rw [if_pos hv]
        have := (hlev v hv).uniq ok hk
        omega
    · unfold put1
      rcases Nat.lt_or_ge j i with hji | hji
      · rw [if_neg (hother j hji v hv)]; exact h.none h0 j hji v hv
      · obtain rfl : j = i := by omega
        rw [← hx] at hv
        rw [if_pos hv]; omega
    · obtain ⟨j, hj, hb⟩ := h.some h0
      exact ⟨j, by omega, hb⟩
/-- The next round. -/
theorem RInv.next {l : List NodeD} {V r left : Nat} {o : Int → Int} (ok : NodesOK l V) (h : RInv l V r l.length left o) : RInv l V (r + 1) 0 0 o := by
  refine ⟨h.leaf, h.told, h.low, fun v k h0 h1 hk hr => ?_, fun j hj => absurd hj (by omega), fun _ j hj => absurd hj (by omega), fun h0 => absurd h0 (by omega)⟩
  cases hk with
  | leaf _ hl =>
    exact h.leaf v (by
      rcases Nat.eq_zero_or_pos (ofN l v) with h2 | h2
      · exact h2
      · obtain ⟨j, hj⟩ : ∃ j, ofN l v = j + 1 := ⟨ofN l v - 1, by omega⟩
        have := ofK_some hj
        exact absurd this.2 (hl j this.1))
  | node _ i f hi hv hf => exact h.new i hi v _ hv (.node v i f hi hv hf) hr
theorem RInv.start {l : List NodeD} {V : Nat} (ok : NodesOK l V) {o : Int → Int} (ho : ∀ v, o v = if ofN l v = 0 then 0 else -1) : RInv l V 0 0 0 o := by
  refine ⟨fun v hv => by rw [ho, if_pos hv], fun v h0 h1 h2 => ?_, fun v h0 h1 => by rw [ho]; split <;> omega, fun v k h0 h1 hk hr => ?_, fun j hj => absurd hj (by omega), fun _ j hj => absurd hj (by omega), fun h0 => absurd h0 (by omega)⟩
  · rw [ho] at h2 ⊢
    by_cases hv : ofN l v = 0
    · rw [if_pos hv]; exact ofN_leaf hv
    · rw [if_neg hv] at h2; omega
  · obtain rfl : k = 0 := by omega
    rw [ho, if_pos]
    · rfl
    · rcases Nat.eq_zero_or_pos (ofN l v) with h2 | h2
      · exact h2
      · obtain ⟨j, hj⟩ : ∃ j, ofN l v = j + 1 := ⟨ofN l v - 1, by omega⟩
        have := ofK_some hj
        obtain ⟨f, -, h3⟩ := hk.inv ok this.1 this.2
        omega
/-- Behind the last round. -/
theorem RInv.yes {l : List NodeD} {V r : Nat} {o : Int → Int} (ok : NodesOK l V) (h : RInv l V r l.length 0 o) : ∀ v : Int, 0 ≤ v → v ≤ V → 0 ≤ o v ∧ Lev l v (o v).toNat := fun v h0 h1 => by
  have : 0 ≤ o v := by
    rcases Nat.eq_zero_or_pos (ofN l v) with h2 | h2
    · rw [h.leaf v h2]; omega
    · obtain ⟨j, hj⟩ : ∃ j, ofN l v = j + 1 := ⟨ofN l v - 1, by omega⟩
      have := ofK_some hj
      exact h.none rfl j this.1 v this.2
  exact ⟨this, h.told v h0 h1 this⟩
theorem RInv.no {l : List NodeD} {V r left : Nat} {o : Int → Int} (ok : NodesOK l V) (h : RInv l V r l.length left o) (hr : l.length ≤ r) (hl : 0 < left) : ¬ Acyc l V := fun hA => by
  obtain ⟨j, hj, hb⟩ := h.some hl
  obtain ⟨v, hv⟩ := List.exists_mem_of_ne_nil _ (ok.vne j hj)
  have hvr := ok.vrng j hj v hv
  obtain ⟨k, hk⟩ := hA v (by omega) hvr.2
  have := hb v hv k hk
  have := hk.bound ok
  omega
end Go.Proofs.Ytgnimegdgphlmaa
