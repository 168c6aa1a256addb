/-
  PLAIN: what a visit does; which nodes there are.
-/
import Derived.Test.YtgnimegdgphlmaaTopL
namespace Go.Proofs.Ytgnimegdgphlmaa
set_option linter.unusedVariables false
/-! ### a visit -/
structure VS (l : List NodeD) (V : Nat) (m lv : Int → Nat) : Prop where
  done : ∀ v : Int, 0 ≤ v → v ≤ V → m v = 2 → Lev l v (lv v)
  leaf : ∀ v : Int, ofN l v = 0 → m v = 0 ∧ lv v = 0
  same : ∀ i, i < l.length → ∀ u ∈ (l.getD i node0).vars, ∀ v ∈ (l.getD i node0).vars, m u = m v
  le2 : ∀ v, m v ≤ 2
theorem VS.start (l : List NodeD) (V : Nat) : VS l V (fun _ => 0) (fun _ => 0) := ⟨(fun _ _ _ h => by cases h), (fun _ _ => ⟨rfl, rfl⟩), (fun _ _ _ _ _ _ => rfl), (fun _ => by omega)⟩
/-- v lies below all that are under way. -/
def Under (l : List NodeD) (V : Nat) (m : Int → Nat) (v : Int) : Prop := ∀ u : Int, 0 ≤ u → u ≤ V → m u = 1 → ∀ k, Lev l u k → ∃ j, j < k ∧ Lev l v j
structure VYes (l : List NodeD) (V : Nat) (m : Int → Nat) (v : Int) (m' lv' : Int → Nat) : Prop where
  vs : VS l V m' lv'
  lev : Lev l v (lv' v)
  keep : ∀ u, m u ≠ 0 → m' u = m u
  one : ∀ u, m' u = 1 → m u = 1
  told : ofN l v = 0 ∨ m' v = 2
/-- How many are not marked. -/
def cnt (V : Nat) (m : Int → Nat) : Nat := (List.range (V + 1)).countP fun (i : Nat) => decide (m (i : Int) = 0)
theorem cnt_le {V : Nat} {m m' : Int → Nat} (h : ∀ u, m u ≠ 0 → m' u ≠ 0) : cnt V m' ≤ cnt V m := by
  unfold cnt
  refine List.countP_mono_left fun i _ hi => ?_
  have := of_decide_eq_true hi
  exact decide_eq_true (Classical.byContradiction fun h0 => h _ h0 this)
theorem countP_lt {l : List Nat} {p q : Nat → Bool} (h : ∀ x ∈ l, p x = true → q x = true) {a : Nat} (ha : a ∈ l) (hp : p a = false) (hq : q a = true) : l.countP p < l.countP q := by
  induction l with
  | nil => cases ha
  | cons b l ih =>
    rw [List.countP_cons, List.countP_cons]
    have hle : l.countP p ≤ l.countP q := List.countP_mono_left fun x hx => h x (List.mem_cons_of_mem _ hx)
    rcases List.mem_cons.1 ha with rfl | ha
    · rw [hp, hq]; simp; omega
    · have := ih (fun x hx => h x (List.mem_cons_of_mem _ hx)) ha
      have hb := h b (List.mem_cons_self ..)
      cases hpb : p b
      · simp; omega
      · rw [hb hpb]; simp; omega
theorem cnt_lt {V : Nat} {m m' : Int → Nat} (h : ∀ u, m u ≠ 0 → m' u ≠ 0) {v : Nat} (hv : v ≤ V) (h0 : m v = 0) (h1 : m' v ≠ 0) : cnt V m' < cnt V m := by
  unfold cnt
  refine countP_lt (a := v) (fun i _ hi => ?_) (List.mem_range.2 (by omega)) (decide_eq_false h1) (decide_eq_true h0)
  have := of_decide_eq_true hi
  exact decide_eq_true (Classical.byContradiction fun h0 => h _ h0 this)
/-- Marks of some variables. -/
def putM (vs : List Int) (n : Nat) (m : Int → Nat) (v : Int) : Nat := if v ∈ vs then n else m v
section
variable {l : List NodeD} {V : Nat} {m lv : Int → Nat} {v : Int} {i : Nat}
theorem VS.same1 (ok : NodesOK l V) (h : VS l V m lv) {n : Nat} (hn : n ≤ 1) (hi : i < l.length) : VS l V (putM (l.getD i node0).vars n m) lv := by
  refine ⟨fun u h0 h1 h2 => ?_, fun u hu => ?_, fun j hj a ha b hb => ?_, fun u => ?_⟩
  · unfold putM at h2
    by_cases hu : u ∈ (l.getD i node0).vars
    · rw [if_pos hu] at h2; omega
    · rw [if_neg hu] at h2; exact h.done u h0 h1 h2
  · unfold putM
    rw [if_neg (fun h' => by rw [ofN_mem ok hi h'] at hu; cases hu)]
    exact h.leaf u hu
  · unfold putM
    by_cases hji : j = i
    · subst hji; rw [if_pos ha, if_pos hb]
    · rw [if_neg (fun h' => hji (ok.uniq j i a hj hi ha h')), if_neg (fun h' => hji (ok.uniq j i b hj hi hb h'))]
      exact h.same j hj a ha b hb
  · unfold putM; split; omega; exact h.le2 u
/-- What lies under a node that is entered. -/
theorem Under.enter (ok : NodesOK l V) (hU : Under l V m v) (hi : i < l.length) (hv : v ∈ (l.getD i node0).vars) {y : Int} (hy : y ∈ (l.getD i node0).frm) : Under l V (putM (l.getD i node0).vars 1 m) (y / 2) := by
  have key : ∀ u ∈ (l.getD i node0).vars, ∀ k, Lev l u k → ∃ j, j < k ∧ Lev l (y / 2) j := fun u hu k hk => by
    obtain ⟨f, hf, rfl⟩ := hk.inv ok hi hu
    exact ⟨f y, by have := le_mx (f := f) y hy; omega, hf y hy⟩
  intro u h0 h1 h2 k hk
  unfold putM at h2
  by_cases hu : u ∈ (l.getD i node0).vars
  · exact key u hu k hk
  · rw [if_neg hu] at h2
    obtain ⟨j, hj, hLj⟩ := hU u h0 h1 h2 k hk
    obtain ⟨j', hj', hL'⟩ := key v hv j hLj
    exact ⟨j', by omega, hL'⟩
theorem Under.mono (h : Under l V m v) {m' : Int → Nat} (h1 : ∀ u, m' u = 1 → m u = 1) : Under l V m' v := fun u h0 h2 h3 => h u h0 h2 (h1 u h3)
/-- A variable that is met under way hangs on itself. -/
theorem under_no (ok : NodesOK l V) (hU : Under l V m v) (h0 : 0 ≤ v) (h1 : v ≤ V) (h2 : m v = 1) : ∀ k, ¬ Lev l v k := fun k hk => by
  obtain ⟨j, hj, hL⟩ := hU v h0 h1 h2 k hk
  have := hL.uniq ok hk
  omega
theorem from_no (ok : NodesOK l V) (hi : i < l.length) (hv : v ∈ (l.getD i node0).vars) {y : Int} (hy : y ∈ (l.getD i node0).frm) (hn : ∀ k, ¬ Lev l (y / 2) k) : ∀ k, ¬ Lev l v k := fun k hk => by
  obtain ⟨f, hf, -⟩ := hk.inv ok hi hv
  exact hn _ (hf y hy)
/-- Behind a node's literals: its variables are told. -/
theorem VYes.leave (ok : NodesOK l V) (hi : i < l.length) (hv : v ∈ (l.getD i node0).vars) (hvs : VS l V m lv) (h0 : m v = 0) {m2 lv2 : Int → Nat} (h2 : VS l V m2 lv2)
    (hk : ∀ u, putM (l.getD i node0).vars 1 m u ≠ 0 → m2 u = putM (l.getD i node0).vars 1 m u) (ho : ∀ u, m2 u = 1 → putM (l.getD i node0).vars 1 m u = 1)
    (f : Int → Nat) (hf : ∀ y ∈ (l.getD i node0).frm, Lev l (y / 2) (f y)) :
    VYes l V m v (putM (l.getD i node0).vars 2 m2) (putM (l.getD i node0).vars (mx (l.getD i node0).frm f + 1) lv2) := by
  have hL : ∀ u ∈ (l.getD i node0).vars, Lev l u (mx (l.getD i node0).frm f + 1) := fun u hu => .node u i f hi hu hf
  refine ⟨⟨fun u h0 h1 hu2 => ?_, fun u hu => ?_, fun j hj a ha b hb => ?_, fun u => ?_⟩, ?_, fun u hu => ?_, fun u hu => ?_, .inr (by unfold putM; rw [if_pos hv])⟩
  · unfold putM at hu2 ⊢
    by_cases hu : u ∈ (l.getD i node0).vars
    · rw [if_pos hu]; exact hL u hu
    · rw [if_neg hu] at hu2 ⊢; exact h2.done u h0 h1 hu2
  · have hn : u ∉ (l.getD i node0).vars := fun h' => by rw [ofN_mem ok hi h'] at hu; cases hu
    unfold putM; rw [if_neg hn, if_neg hn]; exact h2.leaf u hu
  · unfold putM
    by_cases hji : j = i
    · subst hji; rw [if_pos ha, if_pos hb]
    · rw [if_neg (fun h' => hji (ok.uniq j i a hj hi ha h')), if_neg (fun h' => hji (ok.uniq j i b hj hi hb h'))]
      exact h2.same j hj a ha b hb
  · unfold putM; split; omega; exact h2.le2 u
  · unfold putM; rw [if_pos hv]; exact hL v hv
  · have hn : u ∉ (l.getD i node0).vars := fun h' => hu ((hvs.same i hi u h' v hv).trans h0)
    have := hk u (by unfold putM; rw [if_neg hn]; exact hu)
    unfold putM at this ⊢
    rw [if_neg hn] at this ⊢; exact this
  · unfold putM at hu
    by_cases hm : u ∈ (l.getD i node0).vars
    · rw [if_pos hm] at hu; omega
    · rw [if_neg hm] at hu
      have := ho u hu
      unfold putM at this
      rwa [if_neg hm] at this
theorem VYes.trivial (hvs : VS l V m lv) (h0 : 0 ≤ v) (h1 : v ≤ V) (h : ofN l v = 0 ∨ m v = 2) : VYes l V m v m lv := by
  refine ⟨hvs, ?_, fun _ _ => rfl, fun _ h => h, h⟩
  rcases h with h | h
  · rw [(hvs.leaf v h).2]; exact ofN_leaf h
  · exact hvs.done v h0 h1 h
end
/-! ### which nodes there are -/
theorem getD_mapIdx {α β : Type} (f : Nat → α → β) (l : List α) (d : β) (e : α) {i : Nat} (h : i < l.length) : (l.mapIdx f).getD i d = f i (l.getD i e) := by
  simp [List.getD, h]
/-- A node is an and, or a port. -/
def isNode (d : NetD) (x : NodeD) : Prop :=
  (x.pos < d.ands.length ∧ x = andNode x.pos (d.ands.getD x.pos tri0)) ∨
  (x.mem < d.mems.length ∧ x.pos < (d.mems.getD x.mem mem0).rd.length ∧ x = rdNode x.mem (d.mems.getD x.mem mem0).word x.pos ((d.mems.getD x.mem mem0).rd.getD x.pos rd0))
theorem isNode_mem {d : NetD} {x : NodeD} (h : x ∈ nodesN d) : isNode d x := by
  unfold nodesN at h
  rcases List.mem_append.1 h with h | h
  · obtain ⟨i, hi, rfl⟩ := List.getElem_of_mem h
    have hi' : i < d.ands.length := by simpa using hi
    left
    simp [andNode, hi']
  · obtain ⟨ys, hys, hx⟩ := List.mem_flatten.1 h
    obtain ⟨i, hi, rfl⟩ := List.getElem_of_mem hys
    have hi' : i < d.mems.length := by simpa using hi
    rw [List.getElem_mapIdx] at hx
    obtain ⟨k, hk, rfl⟩ := List.getElem_of_mem hx
    have hk' : k < d.mems[i].rd.length := by simpa [memNodes] using hk
    right
    simp [memNodes, rdNode, hi', hk']
theorem isNode_at {d : NetD} {i : Nat} (h : i < (nodesN d).length) : isNode d ((nodesN d).getD i node0) := by
  have : (nodesN d).getD i node0 = (nodesN d)[i] := by simp [List.getD, h]
  rw [this]
  exact isNode_mem (List.getElem_mem h)
theorem flatten_vars (d : NetD) : (nodesN d).flatMap (·.vars) = d.ands.map (·.1) ++ d.mems.flatMap memDef := by
  unfold nodesN
  rw [List.flatMap_append]
  congr 1
  · have : ∀ (l : List Tri) (f : Nat → Nat), (l.mapIdx fun i a => andNode (f i) a).flatMap (·.vars) = l.map (·.1) := by
      intro l
      induction l with
      | nil => intro f; rfl
      | cons a l ih => intro f; rw [List.mapIdx_cons, List.flatMap_cons]; rw [show (fun i => andNode (f (i + 1))) = (fun i => andNode ((fun j => f (j + 1)) i)) from rfl, ih]; rfl
    exact this d.ands id
  · have h1 : ∀ (m : Nat) (w : Int) (l : List RdD) (f : Nat → Nat), (l.mapIdx fun k r => rdNode m w (f k) r).flatMap (·.vars) = l.flatMap fun r => dataM r.1 w := by
      intro m w l
      induction l with
      | nil => intro f; rfl
      | cons a l ih => intro f; rw [List.mapIdx_cons, List.flatMap_cons]; rw [show (fun i => rdNode m w (f (i + 1))) = (fun i => rdNode m w ((fun j => f (j + 1)) i)) from rfl, ih]; rfl
    have h2 : ∀ (l : List MemD) (f : Nat → Nat), (l.mapIdx fun i x => memNodes (f i) x).flatten.flatMap (·.vars) = l.flatMap memDef := by
      intro l
      induction l with
      | nil => intro f; rfl
      | cons a l ih =>
        intro f
        rw [List.mapIdx_cons, List.flatten_cons, List.flatMap_append]
        rw [show (fun i => memNodes (f (i + 1))) = (fun i => memNodes ((fun j => f (j + 1)) i)) from rfl, ih, List.flatMap_cons]
        congr 1
        exact h1 (f 0) a.word a.rd id
    exact h2 d.mems id
theorem flatMap_uniq {α β : Type} {f : α → List β} (d : α) : ∀ {l : List α}, (l.flatMap f).Nodup → ∀ i j v, i < l.length → j < l.length → v ∈ f (l.getD i d) → v ∈ f (l.getD j d) → i = j
  | [], _, i, _, _, hi, _, _, _ => absurd hi (by simp)
  | a :: l, hn, i, j, v, hi, hj, h1, h2 => by
    rw [List.flatMap_cons] at hn
    obtain ⟨n1, n2, n3⟩ := List.nodup_append.1 hn
    have hm : ∀ k, k < l.length → v ∈ f (l.getD k d) → v ∈ l.flatMap f := fun k hk h => List.mem_flatMap.2 ⟨l.getD k d, by simp [List.getD, hk], h⟩
    match i, j with
    | 0, 0 => rfl
    | 0, j + 1 => exact absurd rfl (n3 v (by simpa using h1) v (hm j (by simpa using hj) (by simpa using h2)))
    | i + 1, 0 => exact absurd rfl (n3 v (by simpa using h2) v (hm i (by simpa using hi) (by simpa using h1)))
    | i + 1, j + 1 =>
      have := flatMap_uniq d n2 i j v (by simpa using hi) (by simpa using hj) (by simpa using h1) (by simpa using h2)
      omega
/-- What a netlist that is sound has. -/
structure SoundD (d : NetD) (V : Nat) : Prop where
  vars : d.vars = V
  lim : V ≤ 2000
  defs : Defs V (definedN d)
  all : ∀ v : Int, 1 ≤ v → v ≤ V → v ∈ definedN d
  lits : ∀ x ∈ literalsN d, 0 ≤ x ∧ x ≤ 2 * (V : Int) + 1
  word : ∀ m ∈ d.mems, 1 ≤ m.word ∧ m.word ≤ 64
  ands : d.ands.length ≤ 2000
  mems : d.mems.length ≤ 4
  rds : ∀ m ∈ d.mems, m.rd.length ≤ 4
theorem soundN_ok {d : NetD} (h : soundN d = 0) : ∃ V, SoundD d V := by
  unfold soundN at h
  by_cases h1 : limitsN d = true
  · rw [if_pos h1] at h; cases h
  rw [if_neg h1] at h
  by_cases h2 : d.mems.any wideN = true
  · rw [if_pos h2] at h; cases h
  rw [if_neg h2] at h
  by_cases h3 : d.lat.any badL = true
  · rw [if_pos h3] at h; cases h
  rw [if_neg h3] at h
  by_cases h4 : definesN d.vars (definedN d) [] ≠ 0
  · rw [if_pos h4] at h; exact absurd h h4
  rw [if_neg h4] at h
  by_cases h5 : (literalsN d).any (badX d.vars) = true
  · rw [if_pos h5] at h; cases h
  clear h h3
  have h1 : limitsN d = false := by simpa using h1
  unfold limitsN at h1
  rw [Bool.or_eq_false_iff, Bool.or_eq_false_iff] at h1
  obtain ⟨⟨l1, l2⟩, l3⟩ := h1
  have l1 := of_decide_eq_false l1
  have l3 := of_decide_eq_false l3
  have h4 : definesN d.vars (definedN d) [] = 0 := Classical.byContradiction fun h => h4 h
  obtain ⟨V, hV⟩ : ∃ V : Nat, d.vars = V := ⟨d.vars.toNat, by omega⟩
  rw [hV] at h4 h5 l1
  obtain ⟨d1, d2⟩ := definesN_ok (Defs.nil _) h4
  rw [List.append_nil] at d1
  refine ⟨V, hV, by omega, d1, fun v a b => (d2 v a b).resolve_right (fun h => by cases h), fun x hx => ?_, fun m hm => ?_, by omega, by omega, fun m hm => ?_⟩
  · have : badX V x = false := by
      cases hb : badX V x
      · rfl
      · exact absurd (List.any_eq_true.2 ⟨x, hx, hb⟩) h5
    have := of_decide_eq_false this
    omega
  · have : wideN m = false := by
      cases hb : wideN m
      · rfl
      · exact absurd (List.any_eq_true.2 ⟨m, hm, hb⟩) h2
    unfold wideN at this
    rw [Bool.or_eq_false_iff, Bool.or_eq_false_iff] at this
    have := of_decide_eq_false this.1.1
    omega
  · have : limM m = false := by
      cases hb : limM m
      · rfl
      · exact absurd (List.any_eq_true.2 ⟨m, hm, hb⟩) (by rw [l2]; decide)
    have := of_decide_eq_false this
    omega
theorem mem_getD {α : Type} {l : List α} {i : Nat} (d : α) (h : i < l.length) : l.getD i d ∈ l := by simp [List.getD, h]
theorem SoundD.nodes {d : NetD} {V : Nat} (h : SoundD d V) : NodesOK (nodesN d) V := by
  have hfl := flatten_vars d
  have hmem : ∀ v, v ∈ d.ands.map (·.1) ++ d.mems.flatMap memDef → v ∈ definedN d := fun v hv => by
    unfold definedN
    rcases List.mem_append.1 hv with h1 | h1
    · exact List.mem_append_right _ h1
    · exact List.mem_append_left _ (List.mem_append_right _ h1)
  have hnd : ((nodesN d).flatMap (·.vars)).Nodup := by
    rw [hfl]
    have hp : (d.ands.map (·.1) ++ d.mems.flatMap memDef).Perm (d.mems.flatMap memDef ++ d.ands.map (·.1)) := List.perm_append_comm
    rw [hp.nodup_iff]
    have h1 := h.defs.nd
    unfold definedN at h1
    rw [List.append_assoc] at h1
    exact (List.nodup_append.1 h1).2.1
  refine ⟨fun i j v hi hj h1 h2 => flatMap_uniq node0 hnd i j v hi hj h1 h2, fun i hi v hv => ?_, fun i hi y hy => ?_, fun i hi => ?_⟩
  · refine h.defs.rng v (hmem v ?_)
    rw [← hfl]
    exact List.mem_flatMap.2 ⟨_, mem_getD _ hi, hv⟩
  · refine h.lits y ?_
    unfold literalsN
    rcases isNode_at hi with ⟨hp, he⟩ | ⟨hm, hp, he⟩
    · rw [he] at hy
      refine List.mem_append_right _ (List.mem_flatMap.2 ⟨_, mem_getD tri0 hp, hy⟩)
    · rw [he] at hy
      refine List.mem_append_left _ (List.mem_append_right _ (List.mem_flatMap.2 ⟨_, mem_getD mem0 hm, ?_⟩))
      unfold memLit
      exact List.mem_append_left _ (List.mem_flatMap.2 ⟨_, mem_getD rd0 hp, hy⟩)
  · rcases isNode_at hi with ⟨hp, he⟩ | ⟨hm, hp, he⟩
    · rw [he]; simp [andNode]
    · rw [he]
      have := h.word _ (mem_getD mem0 hm)
      intro h0
      have h2 := congrArg List.length h0
      simp [rdNode, dataM] at h2
      simp [List.getD] at this h2
      omega
end Go.Proofs.Ytgnimegdgphlmaa
