/-
  PLAIN: on which variables literals' values hang: the search from each literal, and the document's way back through the order of levels.
-/
import Derived.Test.YtgnimegdgphlmaaTopL
namespace Go.Proofs.Ytgnimegdgphlmaa
set_option linter.unusedVariables false
/-- What hangs on a variable of R: the variables of R, and those of the literals of their nodes. -/
inductive Rch (l : List NodeD) (R : Int → Prop) : Int → Prop
  | root (v : Int) : R v → Rch l R v
  | step (u y : Int) (i : Nat) : Rch l R u → i < l.length → u ∈ (l.getD i node0).vars → y ∈ (l.getD i node0).frm → 1 ≤ y / 2 → Rch l R (y / 2)
theorem Rch.mono {l : List NodeD} {R R' : Int → Prop} {v : Int} (h : Rch l R v) (hR : ∀ u, R u → Rch l R' u) : Rch l R' v := by
  induction h with
  | root v h => exact hR v h
  | step u y i _ hi hu hy h1 ih => exact .step u y i ih hi hu hy h1
theorem Rch.rng {l : List NodeD} {V : Nat} (ok : NodesOK l V) {R : Int → Prop} {v : Int} (h : Rch l R v) (hR : ∀ u, R u → 1 ≤ u ∧ u ≤ (V : Int)) : 1 ≤ v ∧ v ≤ (V : Int) := by
  induction h with
  | root v h => exact hR v h
  | step u y i _ hi hu hy h1 ih => have := ok.frng i hi y hy; omega
/-- All that hangs on u, directly, is in m. -/
def Kids (l : List NodeD) (m : Int → Bool) (u : Int) : Prop := ∀ i, i < l.length → u ∈ (l.getD i node0).vars → ∀ y ∈ (l.getD i node0).frm, 1 ≤ y / 2 → m (y / 2) = true
theorem Kids.mono {l : List NodeD} {m m' : Int → Bool} {u : Int} (h : Kids l m u) (hs : ∀ v, m v = true → m' v = true) : Kids l m' u := fun i hi hu y hy h1 => hs _ (h i hi hu y hy h1)
theorem Rch.closed {l : List NodeD} {m : Int → Bool} {R : Int → Prop} (hR : ∀ u, R u → m u = true) (hk : ∀ u, m u = true → Kids l m u) {v : Int} (h : Rch l R v) : m v = true := by
  induction h with
  | root v h => exact hR v h
  | step u y i _ hi hu hy h1 ih => exact hk u ih i hi hu y hy h1
/-! ### the search -/
structure AddQ (l : List NodeD) (V : Nat) (m m' : Int → Bool) (v : Int) : Prop where
  sup : ∀ u, m u = true → m' u = true
  hit : 1 ≤ v → v ≤ V → m' v = true
  new : ∀ u, m' u = true → m u = true ∨ Rch l (fun z => z = v ∧ 1 ≤ z ∧ z ≤ V) u
  kids : ∀ u, m' u = true → m u = true ∨ Kids l m' u
theorem AddQ.skip {l : List NodeD} {V : Nat} {m : Int → Bool} {v : Int} (h : v < 1 ∨ (V : Int) < v ∨ m v = true) : AddQ l V m m v :=
  ⟨fun _ h => h, fun h1 h2 => by rcases h with h | h | h; omega; omega; exact h, fun _ h => .inl h, fun _ h => .inl h⟩
def set1 (m : Int → Bool) (v : Int) (u : Int) : Bool := if u = v then true else m u
/-- A variable that no node defines. -/
theorem AddQ.leaf {l : List NodeD} {V : Nat} {m : Int → Bool} {v : Int} (h1 : 1 ≤ v) (h2 : v ≤ V) (h : ofN l v = 0) : AddQ l V m (set1 m v) v := by
  refine ⟨fun u hu => by unfold set1; split; rfl; exact hu, fun _ _ => by simp [set1], fun u hu => ?_, fun u hu => ?_⟩
  · unfold set1 at hu
    by_cases he : u = v
    · exact .inr (.root u ⟨he, by omega⟩)
    · rw [if_neg he] at hu; exact .inl hu
  · unfold set1 at hu
    by_cases he : u = v
    · subst he; exact .inr fun i hi hv => absurd hv (ofK_zero h i hi)
    · rw [if_neg he] at hu; exact .inl hu
/-- Within a variable's node: the first j literals have been gone through. -/
structure AddI (l : List NodeD) (V : Nat) (m m2 : Int → Bool) (v : Int) (ys : List Int) : Prop where
  sup : ∀ u, set1 m v u = true → m2 u = true
  new : ∀ u, m2 u = true → m u = true ∨ Rch l (fun z => z = v ∧ 1 ≤ z ∧ z ≤ V) u
  kids : ∀ u, m2 u = true → set1 m v u = true ∨ Kids l m2 u
  got : ∀ y ∈ ys, 1 ≤ y / 2 → m2 (y / 2) = true
theorem AddI.start {l : List NodeD} {V : Nat} {m : Int → Bool} {v : Int} (h1 : 1 ≤ v) (h2 : v ≤ V) : AddI l V m (set1 m v) v [] :=
  ⟨fun _ h => h, fun u hu => by
    unfold set1 at hu
    by_cases he : u = v
    · exact .inr (.root u ⟨he, by omega⟩)
    · rw [if_neg he] at hu; exact .inl hu, fun _ h => .inl h, fun _ h => by cases h⟩
theorem AddI.step {l : List NodeD} {V : Nat} {m m2 m3 : Int → Bool} {v y : Int} {ys : List Int} {i : Nat} (ok : NodesOK l V) (h : AddI l V m m2 v ys) (hi : i < l.length) (hv : v ∈ (l.getD i node0).vars) (hy : y ∈ (l.getD i node0).frm) (h1 : 1 ≤ v) (h2 : v ≤ V) (ha : AddQ l V m2 m3 (y / 2)) :
    AddI l V m m3 v (ys ++ [y]) := by
  refine ⟨fun u hu => ha.sup u (h.sup u hu), fun u hu => ?_, fun u hu => ?_, fun z hz hz1 => ?_⟩
  · rcases ha.new u hu with h3 | h3
    · exact h.new u h3
    · exact .inr (h3.mono fun z hz => by
        obtain ⟨rfl, hz1, -⟩ := hz
        exact .step v y i (.root v ⟨rfl, h1, h2⟩) hi hv hy hz1)
  · rcases ha.kids u hu with h3 | h3
    · rcases h.kids u h3 with h4 | h4
      · exact .inl h4
      · exact .inr (h4.mono ha.sup)
    · exact .inr h3
  · rcases List.mem_append.1 hz with h3 | h3
    · exact ha.sup _ (h.got z h3 hz1)
    · simp at h3
      subst h3
      have := ok.frng i hi z hy
      exact ha.hit hz1 (by omega)
theorem AddI.done {l : List NodeD} {V : Nat} {m m2 : Int → Bool} {v : Int} {i : Nat} (ok : NodesOK l V) (h : AddI l V m m2 v (l.getD i node0).frm) (hi : i < l.length) (hv : v ∈ (l.getD i node0).vars) : AddQ l V m m2 v := by
  refine ⟨fun u hu => h.sup u (by unfold set1; split; rfl; exact hu), fun _ _ => h.sup v (by simp [set1]), h.new, fun u hu => ?_⟩
  rcases h.kids u hu with h3 | h3
  · unfold set1 at h3
    by_cases he : u = v
    · subst he
      refine .inr fun j hj hu2 y hy hy1 => ?_
      obtain rfl := ok.uniq i j u hi hj hv hu2
      exact h.got y hy hy1
    · rw [if_neg he] at h3; exact .inl h3
  · exact .inr h3
/-- How many variables are not in yet. -/
def cntB (V : Nat) (m : Int → Bool) : Nat := cnt V fun u => if m u = true then 1 else 0
theorem cntB_lt {V : Nat} {m m' : Int → Bool} {v : Nat} (hs : ∀ u, m u = true → m' u = true) (hv : v ≤ V) (h0 : m v = false) (h1 : m' v = true) : cntB V m' < cntB V m :=
  cnt_lt (v := v) (fun u hu => by
    by_cases h : m u = true
    · simp [hs u h]
    · simp [h] at hu) hv (by simp [h0]) (by simp [h1])
theorem cntB_le {V : Nat} {m m' : Int → Bool} (hs : ∀ u, m u = true → m' u = true) : cntB V m' ≤ cntB V m := cnt_le fun u hu => by
  by_cases h : m u = true
  · simp [hs u h]
  · simp [h] at hu
/-- The literals gone through so far, at the outermost. -/
structure SupI (l : List NodeD) (V : Nat) (xs : List Int) (m : Int → Bool) : Prop where
  new : ∀ u, m u = true → Rch l (fun z => (∃ x ∈ xs, z = x / 2) ∧ 1 ≤ z ∧ z ≤ V) u
  kids : ∀ u, m u = true → Kids l m u
  got : ∀ x ∈ xs, 1 ≤ x / 2 → x / 2 ≤ V → m (x / 2) = true
theorem SupI.start (l : List NodeD) (V : Nat) : SupI l V [] (fun _ => false) := ⟨fun _ h => (by cases h), fun _ h => (by cases h), fun _ h => (by cases h)⟩
theorem SupI.step {l : List NodeD} {V : Nat} {xs : List Int} {m m' : Int → Bool} {x : Int} (h : SupI l V xs m) (ha : AddQ l V m m' (x / 2)) : SupI l V (xs ++ [x]) m' := by
  refine ⟨fun u hu => ?_, fun u hu => ?_, fun z hz h1 h2 => ?_⟩
  · rcases ha.new u hu with h3 | h3
    · exact (h.new u h3).mono fun z ⟨⟨x2, hx2, e⟩, hz⟩ => .root z ⟨⟨x2, by simp [hx2], e⟩, hz⟩
    · exact h3.mono fun z ⟨e, hz⟩ => .root z ⟨⟨x, by simp, e⟩, hz⟩
  · rcases ha.kids u hu with h3 | h3
    · exact (h.kids u h3).mono ha.sup
    · exact h3
  · rcases List.mem_append.1 hz with h3 | h3
    · exact ha.sup _ (h.got z h3 h1 h2)
    · simp at h3
      subst h3
      exact ha.hit h1 h2
/-- The variables that any of the literals hangs on. -/
def InSup (l : List NodeD) (V : Nat) (xs : List Int) (v : Int) : Prop := Rch l (fun z => (∃ x ∈ xs, z = x / 2) ∧ 1 ≤ z ∧ z ≤ V) v
theorem SupI.iff {l : List NodeD} {V : Nat} {xs : List Int} {m : Int → Bool} (h : SupI l V xs m) (v : Int) : m v = true ↔ InSup l V xs v :=
  ⟨h.new v, fun hv => hv.closed (fun u ⟨⟨x, hx, e⟩, h1, h2⟩ => by subst e; exact h.got x hx h1 h2) h.kids⟩
/-! ### the document's way: back through the nodes in the order of their levels -/
/-- From the last node on: those at i and behind have been gone through. -/
structure BackI (l : List NodeD) (V : Nat) (xs : List Int) (o : List NodeD) (i : Nat) (m : Int → Bool) : Prop where
  new : ∀ u, m u = true → InSup l V xs u
  got : ∀ x ∈ xs, 1 ≤ x / 2 → x / 2 ≤ V → m (x / 2) = true
  past : ∀ j, i ≤ j → j < o.length → (∃ v ∈ (o.getD j node0).vars, m v = true) → ∀ y ∈ (o.getD j node0).frm, 1 ≤ y / 2 → m (y / 2) = true
/-- Nodes in the order of their levels. -/
structure OrdOK (l : List NodeD) (o : List NodeD) : Prop where
  src : ∀ j, j < o.length → ∃ i, i < l.length ∧ o.getD j node0 = l.getD i node0
  all : ∀ i, i < l.length → ∃ j, j < o.length ∧ o.getD j node0 = l.getD i node0
  up : ∀ j k u v a b, j ≤ k → k < o.length → u ∈ (o.getD j node0).vars → v ∈ (o.getD k node0).vars → Lev l u a → Lev l v b → a ≤ b
def adds (ys : List Int) (m : Int → Bool) (u : Int) : Bool := m u || (decide (1 ≤ u) && decide (∃ y ∈ ys, y / 2 = u))
theorem adds_nil (m : Int → Bool) : adds [] m = m := by funext u; simp [adds]
theorem adds_snoc (ys : List Int) (y : Int) (m : Int → Bool) (u : Int) : adds (ys ++ [y]) m u = if 1 ≤ y / 2 then set1 (adds ys m) (y / 2) u else adds ys m u := by
  unfold adds set1
  rw [Bool.eq_iff_iff]
  by_cases h1 : 1 ≤ y / 2
  · rw [if_pos h1]
    by_cases he : u = y / 2
    · subst he
      simp [h1]
    · have hn : ¬ y / 2 = u := fun e => he e.symm
      simp [he, hn, List.mem_append, or_and_right, exists_or]
  · rw [if_neg h1]
    by_cases hu : 1 ≤ u
    · have hn : ¬ y / 2 = u := fun e => by omega
      simp [hn, List.mem_append, or_and_right, exists_or]
    · simp [hu]
theorem BackI.step {l : List NodeD} {V : Nat} {xs : List Int} {o : List NodeD} {i : Nat} {m : Int → Bool} (ok : NodesOK l V) (ho : OrdOK l o) (hA : Acyc l V) (h : BackI l V xs o (i + 1) m) (hi : i < o.length)
    {m' : Int → Bool} (hm : m' = if (o.getD i node0).vars.any m = true then adds (o.getD i node0).frm m else m) : BackI l V xs o i m' := by
  obtain ⟨q, hq, hoq⟩ := ho.src i hi
  by_cases ht : (o.getD i node0).vars.any m = true
  · rw [if_pos ht] at hm
    subst hm
    obtain ⟨v, hv, hmv⟩ := List.any_eq_true.1 ht
    have hsup : ∀ u, m u = true → adds (o.getD i node0).frm m u = true := fun u hu => by unfold adds; rw [hu]; rfl
    have hadd : ∀ u, adds (o.getD i node0).frm m u = true → m u = true ∨ (1 ≤ u ∧ ∃ y ∈ (o.getD i node0).frm, y / 2 = u) := fun u hu => by
      unfold adds at hu
      simp only [Bool.or_eq_true, Bool.and_eq_true, decide_eq_true_eq] at hu
      exact hu
    refine ⟨fun u hu => ?_, fun x hx h1 h2 => hsup _ (h.got x hx h1 h2), fun j hj hjo hex y hy hy1 => ?_⟩
    · rcases hadd u hu with h3 | ⟨h1, y, hy, rfl⟩
      · exact h.new u h3
      · exact .step v y q (h.new v hmv) hq (by rw [← hoq]; exact hv) (by rw [← hoq]; exact hy) h1
    · rcases Nat.lt_or_ge i j with hlt | hge
      · obtain ⟨u, hu, hmu⟩ := hex
        rcases hadd u hmu with h3 | ⟨h1, z, hz, rfl⟩
        · exact hsup _ (h.past j hlt hjo ⟨u, hu, h3⟩ y hy hy1)
        · exfalso
          have hvr := ok.vrng q hq v (by rw [← hoq]; exact hv)
          obtain ⟨k, hk⟩ := hA v (by omega) hvr.2
          obtain ⟨f, hf, he⟩ := hk.inv ok hq (by rw [← hoq]; exact hv)
          have hz' : z ∈ (l.getD q node0).frm := by rw [← hoq]; exact hz
          have h4 := ho.up i j v (z / 2) _ _ (by omega) hjo hv hu hk (hf z hz')
          have h5 := le_mx (f := f) z hz'
          omega
      · obtain rfl : j = i := by omega
        unfold adds
        simp only [Bool.or_eq_true, Bool.and_eq_true, decide_eq_true_eq]
        exact .inr ⟨hy1, y, hy, rfl⟩
  · rw [if_neg ht] at hm
    subst hm
    refine ⟨h.new, h.got, fun j hj hjo hex y hy hy1 => ?_⟩
    rcases Nat.lt_or_ge i j with hlt | hge
    · exact h.past j hlt hjo hex y hy hy1
    · obtain rfl : j = i := by omega
      obtain ⟨u, hu, hmu⟩ := hex
      exact absurd (List.any_eq_true.2 ⟨u, hu, hmu⟩) ht
theorem BackI.iff {l : List NodeD} {V : Nat} {xs : List Int} {o : List NodeD} {m : Int → Bool} (ho : OrdOK l o) (h : BackI l V xs o 0 m) (v : Int) : m v = true ↔ InSup l V xs v :=
  ⟨h.new v, fun hv => hv.closed (fun u ⟨⟨x, hx, e⟩, h1, h2⟩ => by subst e; exact h.got x hx h1 h2) fun u hu i hi hui y hy hy1 => by
    obtain ⟨j, hj, hje⟩ := ho.all i hi
    exact h.past j (Nat.zero_le _) hj ⟨u, by rw [hje]; exact hui, hu⟩ y (by rw [hje]; exact hy) hy1⟩
/-! ### the document's order -/
def lvAt (o : Int → Int) (a : Nat) (x : NodeD) : Bool := decide (o (x.vars.headD 0) = ((a + 1 : Nat) : Int))
def ordN (l : List NodeD) (o : Int → Int) (a : Nat) : List NodeD := (List.range a).flatMap fun k => l.filter (lvAt o k)
theorem ordN_succ (l : List NodeD) (o : Int → Int) (a : Nat) : ordN l o (a + 1) = ordN l o a ++ l.filter (lvAt o a) := by
  unfold ordN; rw [List.range_succ, List.flatMap_append]; simp
theorem ordN_mem {l : List NodeD} {o : Int → Int} {a : Nat} {x : NodeD} : x ∈ ordN l o a ↔ x ∈ l ∧ ∃ k, k < a ∧ o (x.vars.headD 0) = ((k + 1 : Nat) : Int) := by
  unfold ordN lvAt
  simp only [List.mem_flatMap, List.mem_range, List.mem_filter, decide_eq_true_eq]
  constructor
  · rintro ⟨k, hk, hx, he⟩; exact ⟨hx, k, hk, he⟩
  · rintro ⟨hx, k, hk, he⟩; exact ⟨k, hk, hx, he⟩
theorem ordN_up {l : List NodeD} {o : Int → Int} : ∀ (a j k : Nat), j ≤ k → k < (ordN l o a).length → o (((ordN l o a).getD j node0).vars.headD 0) ≤ o (((ordN l o a).getD k node0).vars.headD 0)
  | 0, _, _, _, h => absurd h (by simp [ordN])
  | a + 1, j, k, hjk, hk => by
    rw [ordN_succ] at hk ⊢
    have hA : ∀ i, i < (ordN l o a).length → o (((ordN l o a).getD i node0).vars.headD 0) ≤ (a : Int) := fun i hi => by
      have : (ordN l o a).getD i node0 ∈ ordN l o a := by rw [List.getD_eq_getElem?_getD, List.getElem?_eq_getElem hi]; exact List.getElem_mem hi
      obtain ⟨-, q, hq, he⟩ := ordN_mem.1 this
      omega
    have hB : ∀ i, i < (l.filter (lvAt o a)).length → o (((l.filter (lvAt o a)).getD i node0).vars.headD 0) = ((a + 1 : Nat) : Int) := fun i hi => by
      have : (l.filter (lvAt o a)).getD i node0 ∈ l.filter (lvAt o a) := by rw [List.getD_eq_getElem?_getD, List.getElem?_eq_getElem hi]; exact List.getElem_mem hi
      have := (List.mem_filter.1 this).2
      exact of_decide_eq_true this
    rw [List.length_append] at hk
    rcases Nat.lt_or_ge k (ordN l o a).length with h1 | h1
    · have e1 : (ordN l o a ++ l.filter (lvAt o a)).getD k node0 = (ordN l o a).getD k node0 := by rw [List.getD_eq_getElem?_getD, List.getElem?_append_left h1, ← List.getD_eq_getElem?_getD]
      have e2 : (ordN l o a ++ l.filter (lvAt o a)).getD j node0 = (ordN l o a).getD j node0 := by rw [List.getD_eq_getElem?_getD, List.getElem?_append_left (by omega), ← List.getD_eq_getElem?_getD]
      rw [e1, e2]
      exact ordN_up a j k hjk h1
    · have e1 : (ordN l o a ++ l.filter (lvAt o a)).getD k node0 = (l.filter (lvAt o a)).getD (k - (ordN l o a).length) node0 := by rw [List.getD_eq_getElem?_getD, List.getElem?_append_right h1, ← List.getD_eq_getElem?_getD]
      rw [e1, hB _ (by omega)]
      rcases Nat.lt_or_ge j (ordN l o a).length with h2 | h2
      · have e2 : (ordN l o a ++ l.filter (lvAt o a)).getD j node0 = (ordN l o a).getD j node0 := by rw [List.getD_eq_getElem?_getD, List.getElem?_append_left h2, ← List.getD_eq_getElem?_getD]
        rw [e2]
        have := hA j h2
        omega
      · have e2 : (ordN l o a ++ l.filter (lvAt o a)).getD j node0 = (l.filter (lvAt o a)).getD (j - (ordN l o a).length) node0 := by rw [List.getD_eq_getElem?_getD, List.getElem?_append_right h2, ← List.getD_eq_getElem?_getD]
        rw [e2, hB _ (by omega)]
        exact Int.le_refl _
theorem getD_idx {α : Type} {l : List α} {x d : α} (h : x ∈ l) : ∃ i, i < l.length ∧ l.getD i d = x := by
  obtain ⟨i, hi, e⟩ := List.mem_iff_getElem.1 h
  exact ⟨i, hi, by rw [List.getD_eq_getElem?_getD, List.getElem?_eq_getElem hi]; exact e⟩
theorem getD_mem {α : Type} {l : List α} {d : α} {i : Nat} (h : i < l.length) : l.getD i d ∈ l := by rw [List.getD_eq_getElem?_getD, List.getElem?_eq_getElem h]; exact List.getElem_mem h
/-- All variables of a node have one level, from 1 up, at most as many as there are nodes. -/
theorem node_lev {l : List NodeD} {V : Nat} {o : Int → Int} (ok : NodesOK l V) (hl : ∀ v : Int, 0 ≤ v → v ≤ V → 0 ≤ o v ∧ Lev l v (o v).toNat) {i : Nat} (hi : i < l.length) {u : Int} (hu : u ∈ (l.getD i node0).vars) {a : Nat} (ha : Lev l u a) :
    o ((l.getD i node0).vars.headD 0) = (a : Int) ∧ 1 ≤ a ∧ a ≤ l.length := by
  obtain ⟨h, hh⟩ : ∃ h, h = (l.getD i node0).vars.headD 0 := ⟨_, rfl⟩
  have hm : h ∈ (l.getD i node0).vars := by
    rw [hh]
    cases hc : (l.getD i node0).vars with
    | nil => exact absurd hc (ok.vne i hi)
    | cons a t => simp
  rw [← hh]
  have hr := ok.vrng i hi h hm
  obtain ⟨h0, hL⟩ := hl h (by omega) hr.2
  obtain ⟨f, hf, e⟩ := hL.inv ok hi hm
  have h1 : Lev l u (mx (l.getD i node0).frm f + 1) := .node u i f hi hu hf
  have h2 := ha.uniq ok h1
  have h3 := ha.bound ok
  omega
theorem ordN_ok {l : List NodeD} {V : Nat} {o : Int → Int} (ok : NodesOK l V) (hl : ∀ v : Int, 0 ≤ v → v ≤ V → 0 ≤ o v ∧ Lev l v (o v).toNat) : OrdOK l (ordN l o l.length) := by
  have hsrc : ∀ j, j < (ordN l o l.length).length → ∃ i, i < l.length ∧ (ordN l o l.length).getD j node0 = l.getD i node0 := fun j hj => by
    obtain ⟨i, hi, e⟩ := getD_idx (d := node0) (ordN_mem.1 (getD_mem (d := node0) hj)).1
    exact ⟨i, hi, e.symm⟩
  refine ⟨hsrc, fun i hi => ?_, fun j k u v a b hjk hk hu hv ha hb => ?_⟩
  · obtain ⟨u, hu⟩ : ∃ u, u ∈ (l.getD i node0).vars := by
      cases hc : (l.getD i node0).vars with
      | nil => exact absurd hc (ok.vne i hi)
      | cons a t => exact ⟨a, by simp⟩
    have hr := ok.vrng i hi u hu
    obtain ⟨h0, hL⟩ := hl u (by omega) hr.2
    obtain ⟨e1, e2, e3⟩ := node_lev ok hl hi hu hL
    have : l.getD i node0 ∈ ordN l o l.length := ordN_mem.2 ⟨getD_mem hi, (o u).toNat - 1, by omega, by rw [e1]; omega⟩
    exact getD_idx this
  · obtain ⟨p, hp, ep⟩ := hsrc j (by omega)
    obtain ⟨q, hq, eq⟩ := hsrc k hk
    have h1 := ordN_up (l := l) (o := o) l.length j k hjk hk
    rw [ep, eq] at h1
    rw [ep] at hu
    rw [eq] at hv
    have h2 := (node_lev ok hl hp hu ha).1
    have h3 := (node_lev ok hl hq hv hb).1
    omega
end Go.Proofs.Ytgnimegdgphlmaa
