/-
  Package watch: what stays of a watch while one of its parts turns; a clause watches a literal.
-/
import Derived.Test.YtghlgegfokjgbaaWaC
namespace Go.Proofs.Ytghlgegfokjgbaa
open Go.ChangeShapes Go.WideShapes Go.ChangeAt Go.RowKit
set_option linter.unusedVariables false
/-- A watch but for what bears a role of K. -/
structure WX (K : List Nat) (B : Nat) (w : World) (r : Nat → Nat) (wb t : Nat) (S : WS) (vl vs vd : Value) (us xs : List Value) : Prop where
  st : 2 ∉ K → Blk w wb 58 #[.pointer (some ⟨t, 0, none⟩), vl, vs, vd, .int .i64 S.bk]
  rst : r wb = 2
  tr : 1 ∉ K → ∃ fp, TrailAt w t S.t fp ∧ ∀ k ∈ fp, r k = 1
  cl : 3 ∉ K → Row w 23 1 vl S.cl.length us
  rcl : 3 ∉ K → ∀ g, vl.ownBlock = some g → r g = 3
  ui : ∀ j, j < S.cl.length → 6 + 2 * j ∉ K → ∃ g, CL w (us.getD j undef) (S.cl.getD j []) g ∧ ∀ b, g = some b → r b = 6 + 2 * j
  ls : 4 ∉ K → Row w 23 1 vs S.ls.length xs
  rls : 4 ∉ K → ∀ g, vs.ownBlock = some g → r g = 4
  xi : ∀ s, s < S.ls.length → 7 + 2 * s ∉ K → ∃ g, LR w (xs.getD s undef) (S.ls.getD s []) g ∧ ∀ b, g = some b → r b = 7 + 2 * s
  dn : 5 ∉ K → ∃ g, LR w vd S.dn g ∧ ∀ b, g = some b → r b = 5
  lo : ∀ b, b < B → r b = 0
  hi : ∀ b, w.heap.size ≤ b → r b = 0
theorem WV.wx {B : Nat} {w : World} {r : Nat → Nat} {wb t : Nat} {S : WS} {vl vs vd : Value} {us xs : List Value} (h : WV B w r wb t S vl vs vd us xs) : WX [] B w r wb t S vl vs vd us xs :=
  ⟨fun _ => h.st, h.rst, fun _ => h.tr, fun _ => h.cl, fun _ => h.rcl, fun j hj _ => h.ui j hj, fun _ => h.ls, fun _ => h.rls, fun s hs _ => h.xi s hs, fun _ => h.dn, h.lo, h.hi⟩
/-- A step that turns blocks of K' alone; r' is r but for new blocks. -/
theorem WX.step {K K' : List Nat} {B : Nat} {w w1 : World} {r r' : Nat → Nat} {wb t : Nat} {S : WS} {vl vs vd : Value} {us xs : List Value} {T : Nat → Prop} (h : WX K B w r wb t S vl vs vd us xs) (hwb : wb < w.heap.size) (hc : Chg T w w1) (hT : ∀ b, b < w.heap.size → T b → r b ∈ K') (hK : ∀ k ∈ K, k ∈ K')
    (hr : ∀ b, b < w.heap.size → r' b = r b) (hh : ∀ b, w1.heap.size ≤ b → r' b = 0) (hB : B ≤ w.heap.size) : WX K' B w1 r' wb t S vl vs vd us xs := by
  obtain ⟨h1, h2, h3, h4, h5, h6, h7, h8, h9, h10, h11, h12⟩ := h
  have nt : ∀ b, b < w.heap.size → r b ∉ K' → ¬ T b := fun b hb hn hTb => hn (hT b hb hTb)
  have sub : ∀ {k}, k ∉ K' → k ∉ K := fun hk hm => hk (hK _ hm)
  refine ⟨fun hk => (h1 (sub hk)).chg hc (nt _ hwb (by rw [h2]; exact hk)), by rw [hr _ hwb]; exact h2, fun hk => ?_,
    fun hk => (h4 (sub hk)).chg hc (fun g hg => nt g ((h4 (sub hk)).lt g hg) (by rw [h5 (sub hk) g hg]; exact hk)), fun hk g hg => by rw [hr g ((h4 (sub hk)).lt g hg)]; exact h5 (sub hk) g hg, fun j hj hk => ?_,
    fun hk => (h7 (sub hk)).chg hc (fun g hg => nt g ((h7 (sub hk)).lt g hg) (by rw [h8 (sub hk) g hg]; exact hk)), fun hk g hg => by rw [hr g ((h7 (sub hk)).lt g hg)]; exact h8 (sub hk) g hg, fun s hs hk => ?_,
    fun hk => ?_, fun b hb => by rw [hr b (by omega)]; exact h11 b hb, hh⟩
  · obtain ⟨fp, h3, h3'⟩ := h3 (sub hk)
    have hfp : ∀ k ∈ fp, k < w.heap.size := fun b hb => Nat.lt_of_not_le fun hle => by have := h12 b hle; have := h3' b hb; omega
    exact ⟨fp, h3.chg hc (fun b hb => nt b (hfp b hb) (by rw [h3' b hb]; exact hk)), fun b hb => by rw [hr b (hfp b hb)]; exact h3' b hb⟩
  · obtain ⟨g, q1, q2⟩ := h6 j hj (sub hk)
    exact ⟨g, q1.chg hc (fun b hb => nt b (q1.lt b hb) (by rw [q2 b hb]; exact hk)), fun b hb => by rw [hr b (q1.lt b hb)]; exact q2 b hb⟩
  · obtain ⟨g, q1, q2⟩ := h9 s hs (sub hk)
    exact ⟨g, q1.chg hc (fun b hb => nt b (q1.lt b hb) (by rw [q2 b hb]; exact hk)), fun b hb => by rw [hr b (q1.lt b hb)]; exact q2 b hb⟩
  · obtain ⟨gd, h10, h10'⟩ := h10 (sub hk)
    exact ⟨gd, h10.chg hc (fun b hb => nt b (h10.lt b hb) (by rw [h10' b hb]; exact hk)), fun b hb => by rw [hr b (h10.lt b hb)]; exact h10' b hb⟩
/-- A store into a block of the watch's. -/
theorem WX.poke {K : List Nat} {B : Nat} {w : World} {r : Nat → Nat} {wb t : Nat} {S : WS} {vl vs vd : Value} {us xs : List Value} (h : WX K B w r wb t S vl vs vd us xs) (hwb : wb < w.heap.size) (hB : B ≤ w.heap.size) (p : Addr) (q : Nat) (hq : r p.block = q) (u : Value) :
    WX (q :: K) B (w.setCell p u) r wb t S vl vs vd us xs := by
  have hc : Chg (fun j => j = p.block) w (w.setCell p u) := (Chg.refl (fun j => j = p.block) w).setCell (.inl rfl) _
  exact h.step hwb hc (fun b _ e => by rw [e, hq]; simp) (fun k hk => by simp [hk]) (fun _ _ => rfl) (fun b hb => h.hi b (Nat.le_trans hc.size hb)) hB
theorem chg_poke (w : World) (p : Addr) (u : Value) : Chg (fun j => j = p.block) w (w.setCell p u) := (Chg.refl (fun j => j = p.block) w).setCell (.inl rfl) _
/-- The role of a row's new block. -/
def owner (r : Nat → Nat) (g : Option Nat) (k : Nat) : Nat → Nat := fun b => if g = some b then k else r b
theorem owner_old {w : World} {r : Nat → Nat} {g g0 : Option Nat} {k n : Nat} (hg : g = g0 ∨ g = some n) (hn : w.heap.size ≤ n) (h0 : ∀ b, g0 = some b → r b = k) (b : Nat) (hb : b < w.heap.size) : owner r g k b = r b := by
  unfold owner
  split
  · rename_i e
    rcases hg with h | h
    · exact (h0 b (by rw [← h]; exact e)).symm
    · rw [h] at e; injection e with e; omega
  · rfl
theorem owner_hi {w w1 : World} {r : Nat → Nat} {g : Option Nat} {k : Nat} (hg : ∀ b, g = some b → b < w1.heap.size) (hs : w.heap.size ≤ w1.heap.size) (h : ∀ b, w.heap.size ≤ b → r b = 0) (b : Nat) (hb : w1.heap.size ≤ b) : owner r g k b = 0 := by
  unfold owner
  split
  · rename_i e
    have := hg b e
    omega
  · exact h b (by omega)
/-! ### put -/
def padL (ls : List (List Int)) (s : Nat) : List (List Int) := ls ++ List.replicate (s + 1 - ls.length) []
def putL (ls : List (List Int)) (s : Nat) (id : Int) : List (List Int) := (padL ls s).set s ((padL ls s).getD s [] ++ [id])
theorem padL_len (ls : List (List Int)) (s : Nat) : (padL ls s).length = max ls.length (s + 1) := by simp [padL]; omega
theorem padL_has (ls : List (List Int)) (s : Nat) (h : s < ls.length) : padL ls s = ls := by
  unfold padL
  rw [show s + 1 - ls.length = 0 by omega]
  simp
theorem getD_rep {α : Type} (d : α) (n j : Nat) : (List.replicate n d).getD j d = d := by
  simp only [List.getD, List.getElem?_replicate]
  split <;> rfl
/-- The lists grow. -/
theorem WV.pad {B : Nat} {w w1 : World} {r : Nat → Nat} {wb t : Nat} {S : WS} {vl vs vd v' : Value} {us xs : List Value} (h : WV B w r wb t S vl vs vd us xs) (hB : B ≤ w.heap.size) (m : Nat) (hp : AppPost w 23 1 vs (S.ls.length + m) (xs ++ List.replicate m (.slice none 0 0)) v' w1) :
    ∃ r', WV B (w1.setCell ⟨wb, 2, none⟩ v') r' wb t { S with ls := S.ls ++ List.replicate m [] } vl v' vd us (xs ++ List.replicate m (.slice none 0 0)) ∧ Chg (fun b => r b ≠ 0) w (w1.setCell ⟨wb, 2, none⟩ v') ∧ ∀ b, b < w.heap.size → r' b = r b := by
  obtain ⟨p1, p2, p3⟩ := hp
  have hold : ∀ b, b < w.heap.size → owner r v'.ownBlock 4 b = r b := owner_old p3 (Nat.le_refl _) h.rls
  have hx := h.wx.step (K' := [4]) (r' := owner r v'.ownBlock 4) h.st.lt p2 (fun b _ hb => by rw [h.rls b hb]; simp) (by simp) hold (owner_hi p1.lt p2.size h.hi) hB
  have hb1 := hx.st (by simp)
  have hy := hx.poke hb1.lt (Nat.le_trans hB p2.size) ⟨wb, 2, none⟩ 2 hx.rst v'
  have hc := chg_poke w1 ⟨wb, 2, none⟩ v'
  have hr4 : ∀ g, v'.ownBlock = some g → owner r v'.ownBlock 4 g = 4 := fun g hg => by unfold owner; rw [if_pos hg]
  have hxl := row_len h.ls
  refine ⟨owner r v'.ownBlock 4, ⟨hb1.set_ 2 _, hx.rst, hy.tr (by simp), hy.cl (by simp), hy.rcl (by simp), fun j hj => hy.ui j hj (by simp <;> omega), ?_, hr4, fun s hs => ?_, hy.dn (by simp), hy.lo, hy.hi⟩, ?_, hold⟩
  · have := p1.chg hc (fun g hg e => by have e : g = wb := e; have := hr4 g hg; rw [e] at this; have := hx.rst; omega)
    simpa using this
  · simp only [List.length_append, List.length_replicate] at hs
    rcases Nat.lt_or_ge s S.ls.length with hlt | hge
    · obtain ⟨g, q1, q2⟩ := hy.xi s hlt (by simp <;> omega)
      refine ⟨g, ?_, q2⟩
      have e1 : (xs ++ List.replicate m (Value.slice none 0 0)).getD s undef = xs.getD s undef := by simp only [List.getD]; rw [List.getElem?_append_left (by omega)]
      have e2 : (S.ls ++ List.replicate m []).getD s [] = S.ls.getD s [] := by simp only [List.getD]; rw [List.getElem?_append_left hlt]
      show LR _ ((xs ++ List.replicate m (Value.slice none 0 0)).getD s undef) ((S.ls ++ List.replicate m []).getD s []) g
      rw [e1, e2]
      exact q1
    · refine ⟨none, ?_, fun b hb => by cases hb⟩
      have e1 : (xs ++ List.replicate m (Value.slice none 0 0)).getD s undef = Value.slice none 0 0 := by
        simp only [List.getD]
        rw [List.getElem?_append_right (by omega), List.getElem?_replicate, if_pos (by omega)]
        rfl
      have e2 : (S.ls ++ List.replicate m ([] : List Int)).getD s [] = [] := by
        simp only [List.getD]
        rw [List.getElem?_append_right (by omega), List.getElem?_replicate, if_pos (by omega)]
        rfl
      show LR _ ((xs ++ List.replicate m (Value.slice none 0 0)).getD s undef) ((S.ls ++ List.replicate m []).getD s []) none
      rw [e1, e2]
      exact LR.nil _
  · refine (p2.mono fun b hb => ?_).trans hc (fun b hb => ?_)
    · show r b ≠ 0; rw [h.rls b hb]; omega
    · have hb : b = wb := hb; exact .inl (by show r b ≠ 0; rw [hb, h.rst]; omega)
theorem getD_set_self {α : Type} (l : List α) (j : Nat) (x d : α) (h : j < l.length) : (l.set j x).getD j d = x := by simp [List.getD, h]
theorem getD_set_ne {α : Type} (l : List α) (j k : Nat) (x d : α) (h : j ≠ k) : (l.set j x).getD k d = l.getD k d := by simp [List.getD, List.getElem?_set_ne h]
/-- One list gets a new row: built in world w from an old one (or a new one), and stored. -/
theorem WV.putAt {B : Nat} {w w1 : World} {r : Nat → Nat} {wb t : Nat} {S : WS} {vl vd v' : Value} {gs cap : Nat} {us xs : List Value} (h : WV B w r wb t S vl (.slice (some ⟨gs, 0, none⟩) S.ls.length cap) vd us xs) (hB : B ≤ w.heap.size) (s : Nat) (hs : s < S.ls.length) (l : List Int) (g0 : Option Nat)
    (hg0 : ∀ b, g0 = some b → r b = 7 + 2 * s) (hp : LRPost w g0 l v' w1) :
    ∃ r', WV B (w1.setCell ⟨gs, s, none⟩ v') r' wb t { S with ls := S.ls.set s l } vl (.slice (some ⟨gs, 0, none⟩) S.ls.length cap) vd us (xs.set s v') ∧ Chg (fun b => r b ≠ 0) w (w1.setCell ⟨gs, s, none⟩ v') ∧ ∀ b, b < w.heap.size → r' b = r b := by
  obtain ⟨g, p1, p2, p3⟩ := hp
  have hold : ∀ b, b < w.heap.size → owner r g (7 + 2 * s) b = r b := owner_old p3 (Nat.le_refl _) hg0
  have hx := h.wx.step (K' := [7 + 2 * s]) (r' := owner r g (7 + 2 * s)) h.st.lt p2 (fun b _ hb => by rw [hg0 b hb]; simp) (by simp) hold (owner_hi p1.lt p2.size h.hi) hB
  have hb1 := hx.st (by simp <;> omega)
  have hgs : r gs = 4 := h.rls gs rfl
  have hgs' : owner r g (7 + 2 * s) gs = 4 := hx.rls (by simp <;> omega) gs rfl
  have hy := hx.poke hb1.lt (Nat.le_trans hB p2.size) ⟨gs, s, none⟩ 4 hgs' v'
  have hc := chg_poke w1 ⟨gs, s, none⟩ v'
  have hxl := row_len h.ls
  have hrg : ∀ b, g = some b → owner r g (7 + 2 * s) b = 7 + 2 * s := fun b hb => by unfold owner; rw [if_pos hb]
  refine ⟨owner r g (7 + 2 * s), ⟨hy.st (by simp <;> omega), hy.rst, hy.tr (by simp <;> omega), hy.cl (by simp <;> omega), hy.rcl (by simp <;> omega), fun j hj => hy.ui j hj (by simp <;> omega), ?_, hx.rls (by simp <;> omega), fun k hk => ?_, hy.dn (by simp <;> omega), hy.lo, hy.hi⟩, ?_, hold⟩
  · have := (hx.ls (by simp <;> omega)).set1 s v'
    simpa using this
  · simp only [List.length_set] at hk
    by_cases e : s = k
    · subst e
      refine ⟨g, ?_, hrg⟩
      show LR _ ((xs.set s v').getD s undef) ((S.ls.set s l).getD s []) g
      rw [getD_set_self _ _ _ _ (by omega), getD_set_self _ _ _ _ hs]
      exact p1.chg hc (fun b hb e => by have e : b = gs := e; have := hrg b hb; rw [e] at this; omega)
    · obtain ⟨g', q1, q2⟩ := hy.xi k hk (by simp <;> omega)
      refine ⟨g', ?_, q2⟩
      show LR _ ((xs.set s v').getD k undef) ((S.ls.set s l).getD k []) g'
      rw [getD_set_ne _ _ _ _ _ e, getD_set_ne _ _ _ _ _ e]
      exact q1
  · refine (p2.mono fun b hb => ?_).trans hc (fun b hb => ?_)
    · show r b ≠ 0; rw [hg0 b hb]; omega
    · have hb : b = gs := hb; exact .inl (by show r b ≠ 0; rw [hb, hgs]; omega)
theorem WV.putCell {B : Nat} {w w1 : World} {r : Nat → Nat} {wb t : Nat} {S : WS} {vl vd v' : Value} {gs n cap : Nat} {us xs : List Value} (h : WV B w r wb t S vl (.slice (some ⟨gs, 0, none⟩) n cap) vd us xs) (s : Nat) (hs : s < S.ls.length) (l : List Int) (g0 : Option Nat)
    (hg0 : ∀ b, g0 = some b → r b = 7 + 2 * s) (hp : LRPost w g0 l v' w1) : w1.cell? ⟨gs, s, none⟩ = some (xs.getD s undef) ∧ w1.frozen? ⟨gs, s, none⟩ = false ∧ w1.cell? ⟨wb, 2, none⟩ = some (.slice (some ⟨gs, 0, none⟩) n cap) := by
  obtain ⟨g, p1, p2, p3⟩ := hp
  have hgs : r gs = 4 := h.rls gs rfl
  have hr := h.ls.chg p2 (fun b hb e => by have h1 := hg0 b e; have h2 := h.rls b hb; omega)
  obtain ⟨g', cap', hv, q1, q2, -, -⟩ := row_at1 hr hs
  injection hv with e1 e2 e3
  injection e1 with e1
  injection e1 with e1
  subst e1
  exact ⟨q1, q2, (h.st.chg p2 (fun e => by have h1 := hg0 wb e; have h2 := h.rst; omega)).cell 2⟩
/-- What put leaves: the clauses' values are the same. -/
def PutP (B : Nat) (w : World) (r : Nat → Nat) (wb t : Nat) (S : WS) (vl vd : Value) (us : List Value) (w' : World) : Prop :=
  ∃ r' vs' xs', WV B w' r' wb t S vl vs' vd us xs' ∧ Chg (fun b => r b ≠ 0) w w' ∧ ∀ b, b < w.heap.size → r' b = r b
theorem PutP.trans {B : Nat} {w w1 w2 : World} {r r1 : Nat → Nat} {wb t : Nat} {S : WS} {vl vd : Value} {us : List Value} (hc : Chg (fun b => r b ≠ 0) w w1) (hr : ∀ b, b < w.heap.size → r1 b = r b) (h : PutP B w1 r1 wb t S vl vd us w2) : PutP B w r wb t S vl vd us w2 := by
  obtain ⟨r2, vs, xs, q1, q2, q3⟩ := h
  refine ⟨r2, vs, xs, q1, hc.trans q2 (fun i hi => ?_), fun b hb => (q3 b (Nat.lt_of_lt_of_le hb hc.size)).trans (hr b hb)⟩
  rcases Nat.lt_or_ge i w.heap.size with h | h
  · exact .inl (by rw [← hr i h]; exact hi)
  · exact .inr h
/-- The same, and the other lists' values are the same. -/
def PutX (B : Nat) (w : World) (r : Nat → Nat) (wb t : Nat) (S : WS) (vl vd : Value) (us xs : List Value) (s : Nat) (w' : World) : Prop :=
  ∃ r' vs' xs', WV B w' r' wb t S vl vs' vd us xs' ∧ Chg (fun b => r b ≠ 0) w w' ∧ (∀ b, b < w.heap.size → r' b = r b) ∧ ∀ s', s' < xs.length → s' ≠ s → xs'.getD s' undef = xs.getD s' undef
def PutQ (B : Nat) (w : World) (r : Nat → Nat) (wb t : Nat) (S : WS) (vl vd : Value) (us xs : List Value) (s : Nat) (e : Ending) (w' : World) : Prop := e = .returned (.tuple #[]) ∧ PutX B w r wb t S vl vd us xs s w'
set_option maxHeartbeats 1000000 in
set_option maxRecDepth 100000 in
theorem wput_has {B : Nat} {w : World} {r : Nat → Nat} {wb t : Nat} {S : WS} {vl vs vd : Value} {us xs : List Value} (h : WV B w r wb t S vl vs vd us xs) (hB : B ≤ w.heap.size) (l : Int) (hl : lit3 l) (hs : slotN l < S.ls.length) (id : Int) (hn : (S.ls.getD (slotN l) []).length ≤ 100000) (hns : S.ls.length ≤ 100000) :
    Calls Try.prog 29 #[.pointer (some ⟨wb, 0, none⟩), .int .i64 l, .int .i64 id] w (PutQ B w r wb t { S with ls := putL S.ls (slotN l) id } vl vd us xs (slotN l)) := by
  have hpl : putL S.ls (slotN l) id = S.ls.set (slotN l) (S.ls.getD (slotN l) [] ++ [id]) := by unfold putL; rw [padL_has _ _ hs]
  rw [hpl]
  have hsl := slotN_cast hl
  have hc := h.cells
  obtain ⟨c0, c1, c2, c3, c4⟩ := hc
  obtain ⟨s, hse⟩ : ∃ s, s = slotN l := ⟨_, rfl⟩
  rw [← hse] at hs hn hsl ⊢
  obtain ⟨gs, cap, rfl, x0, f0, -, -⟩ := row_at1 h.ls hs
  obtain ⟨g, hx, hg⟩ := h.xi s hs
  obtain ⟨la, lc, hlv, -, -⟩ := hx.form
  rw [hlv] at x0 hx
  obtain ⟨m, hm⟩ : ∃ m, m = (S.ls.getD s []).length := ⟨_, rfl⟩
  rw [← hm] at x0 hx hlv hn
  obtain ⟨n, hnn⟩ : ∃ n, n = S.ls.length := ⟨_, rfl⟩
  rw [← hnn] at c2 hs hns
  have HSL := Lib.hid (slot_ l hl w)
  rw [hsl] at HSL
  have s0 : (0 : Int) ≤ (s : Int) := by omega
  have s1 : (s : Int) < (n : Int) := by omega
  have s2 : (n : Int) ≤ 100000 := by omega
  have lg : gs < w.heap.size := World.block_lt_of_cell? w _ x0
  have lw : wb < w.heap.size := h.st.lt
  have H := Lib.hid h
  have HX := Lib.hid hx
  have HG := Lib.hid hg
  have HN := Lib.hid hnn
  have HM := Lib.hid hm
  clear h hx hg hnn hm hlv hpl hsl hse hs hns
  go_enter Try.func29, Try.ntmps29
  go_wp2_with ((go_at_call 35; refine (HSL.out).mono ?_; rintro e w' ⟨rfl, rfl⟩))
  go_region_law (first
    | (refine step_appLR rfl (.tmp 40) (.tmp 42) _ rfl Try.underlying23 infoI (.slice la m lc) (S.ls.getD s []) g (by simp [Act.eval]) ?ho ⟨w.heap.size, 0, none⟩ 1 1 [id] (by simp [Act.eval]) rfl ?hn ?c1 ?_
       case ho => exact HX.out.drew.alloc _
       case hn => intro j hj; obtain rfl : j = 0 := (by simp at hj; omega); exact (Blk.new w.drew 3 #[.int .i64 id]).cell 0
       case c1 => rw [← HM.out]; omega
       intro v3 wB hpF
       obtain ⟨ao, no, co, rfl⟩ : ∃ ao no co, v3 = .slice ao no co := by
         obtain ⟨_, q, _⟩ := hpF
         obtain ⟨ao, co, q, -⟩ := q.form
         exact ⟨ao, _, co, q⟩
       have HP := Lib.hid hpF
       obtain ⟨kB, rB, cB⟩ := WV.putCell (H.out.chg (T := fun _ => False) ((Chg.refl _ w).drew.alloc (.cells #[.int .i64 id] 3)) (fun _ _ h => h)) s (by have := HN.out; omega) _ g HG.out hpF
       rw [← HN.out] at cB
       clear hpF))
  all_goals
    clear kB rB cB
    go_wp2
    go_returns
    refine ⟨rfl, ?_⟩
    obtain ⟨r', q1, q2, q3⟩ := WV.putAt (H.out.chg (T := fun _ => False) ((Chg.refl _ w).drew.alloc (.cells #[.int .i64 id] 3)) (fun _ _ h => h)) (by simp; omega) s (by have := HN.out; omega) _ g HG.out HP.out
    exact ⟨r', _, _, q1, ((Chg.refl _ w).drew.alloc (.cells #[.int .i64 id] 3)).trans q2 (fun i hi => .inl hi), fun b hb => q3 b (by simp; omega), fun s' _ hne => getD_set_ne _ _ _ _ _ (Ne.symm hne)⟩
end Go.Proofs.Ytghlgegfokjgbaa
