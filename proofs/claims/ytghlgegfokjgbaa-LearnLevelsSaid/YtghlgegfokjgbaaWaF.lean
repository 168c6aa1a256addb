/-
  Package watch: Add.
-/
import Derived.Test.YtghlgegfokjgbaaWaE
namespace Go.Proofs.Ytghlgegfokjgbaa
open Go.ChangeShapes Go.WideShapes Go.ChangeAt Go.RowKit
set_option linter.unusedVariables false
theorem owner_ne {r : Nat → Nat} {g : Option Nat} {k b q : Nat} (h : r b = q) (hq : q ≠ 0) (hg : ∀ b, g = some b → r b = 0) : owner r g k b = q := by
  unfold owner
  split
  · rename_i e
    have := hg b e
    omega
  · exact h
/-- A block that was nobody's becomes the watch's. -/
theorem WV.adopt {B : Nat} {w : World} {r : Nat → Nat} {wb t : Nat} {S : WS} {vl vs vd : Value} {us xs : List Value} (h : WV B w r wb t S vl vs vd us xs) (g : Option Nat) (k : Nat) (hg : ∀ b, g = some b → r b = 0 ∧ B ≤ b ∧ b < w.heap.size) :
    WV B w (owner r g k) wb t S vl vs vd us xs := by
  obtain ⟨h1, h2, ⟨fp, h3, h3'⟩, h4, h5, h6, h7, h8, h9, ⟨gd, h10, h10'⟩, h11, h12⟩ := h
  have hz : ∀ b, g = some b → r b = 0 := fun b hb => (hg b hb).1
  refine ⟨h1, owner_ne h2 (by omega) hz, ⟨fp, h3, fun b hb => owner_ne (h3' b hb) (by omega) hz⟩, h4, fun b hb => owner_ne (h5 b hb) (by omega) hz, fun j hj => ?_, h7, fun b hb => owner_ne (h8 b hb) (by omega) hz, fun s hs => ?_, ⟨gd, h10, fun b hb => owner_ne (h10' b hb) (by omega) hz⟩, fun b hb => ?_, fun b hb => ?_⟩
  · obtain ⟨g', q1, q2⟩ := h6 j hj
    exact ⟨g', q1, fun b hb => owner_ne (q2 b hb) (by omega) hz⟩
  · obtain ⟨g', q1, q2⟩ := h9 s hs
    exact ⟨g', q1, fun b hb => owner_ne (q2 b hb) (by omega) hz⟩
  · unfold owner
    split
    · rename_i e; have := (hg b e).2.1; omega
    · exact h11 b hb
  · unfold owner
    split
    · rename_i e; have := (hg b e).2.2; omega
    · exact h12 b hb
/-- One clause more. -/
theorem WV.addCl {B : Nat} {w w1 : World} {r : Nat → Nat} {wb t : Nat} {S : WS} {vl vs vd u v' : Value} {us xs : List Value} {c : List Int} {gu : Option Nat} (h : WV B w r wb t S vl vs vd us xs) (hB : B ≤ w.heap.size) (hc0 : c ≠ []) (hu : LR w u c gu) (hgu : ∀ b, gu = some b → r b = 6 + 2 * S.cl.length)
    (hp : AppPost w 23 1 vl (S.cl.length + 1) (us ++ [u]) v' w1) :
    ∃ r', WV B (w1.setCell ⟨wb, 1, none⟩ v') r' wb t { S with cl := S.cl ++ [c] } v' vs vd (us ++ [u]) xs ∧ Chg (fun b => r b ≠ 0) w (w1.setCell ⟨wb, 1, none⟩ v') ∧ ∀ b, b < w.heap.size → r' b = r b := by
  obtain ⟨p1, p2, p3⟩ := hp
  have hold : ∀ b, b < w.heap.size → owner r v'.ownBlock 3 b = r b := owner_old p3 (Nat.le_refl _) h.rcl
  have hx := h.wx.step (K' := [3]) (r' := owner r v'.ownBlock 3) h.st.lt p2 (fun b _ hb => by rw [h.rcl b hb]; simp) (by simp) hold (owner_hi p1.lt p2.size h.hi) hB
  have hb1 := hx.st (by simp)
  have hy := hx.poke hb1.lt (Nat.le_trans hB p2.size) ⟨wb, 1, none⟩ 2 hx.rst v'
  have hc := chg_poke w1 ⟨wb, 1, none⟩ v'
  have hr3 : ∀ g, v'.ownBlock = some g → owner r v'.ownBlock 3 g = 3 := fun g hg => by unfold owner; rw [if_pos hg]
  have hul := row_len h.cl
  refine ⟨owner r v'.ownBlock 3, ⟨hb1.set_ 1 _, hx.rst, hy.tr (by simp), ?_, hr3, fun j hj => ?_, hy.ls (by simp), hy.rls (by simp), fun s hs => hy.xi s hs (by simp <;> omega), hy.dn (by simp), hy.lo, hy.hi⟩, ?_, hold⟩
  · have := p1.chg hc (fun g hg e => by have e : g = wb := e; have := hr3 g hg; rw [e] at this; have := hx.rst; omega)
    simpa using this
  · simp only [List.length_append, List.length_singleton] at hj
    show ∃ g, CL _ ((us ++ [u]).getD j undef) ((S.cl ++ [c]).getD j []) g ∧ _
    rcases Nat.lt_or_ge j S.cl.length with hlt | hge
    · obtain ⟨g, q1, q2⟩ := hy.ui j hlt (by simp <;> omega)
      rw [getD_snoc_lt _ _ _ (by omega), getD_snoc_lt _ _ _ hlt]
      exact ⟨g, q1, q2⟩
    · obtain rfl : j = S.cl.length := by omega
      have e1 : (us ++ [u]).getD S.cl.length undef = u := by rw [← hul]; exact getD_snoc_eq _ _ _
      rw [e1, getD_snoc_eq]
      have hgo : ∀ b, gu = some b → owner r v'.ownBlock 3 b = 6 + 2 * S.cl.length := fun b hb => by rw [hold b (hu.lt b hb)]; exact hgu b hb
      refine ⟨gu, ⟨(hu.chg p2 (fun b hb e => by have h1 := hgu b hb; have h2 := h.rcl b e; omega)).chg hc (fun b hb e => ?_), fun e => absurd e hc0⟩, hgo⟩
      have e : b = wb := e
      have h1 := hgo b hb
      rw [e, hx.rst] at h1
      omega
  · refine (p2.mono fun b hb => ?_).trans hc (fun b hb => ?_)
    · show r b ≠ 0; rw [h.rcl b hb]; omega
    · have hb : b = wb := hb; exact .inl (by show r b ≠ 0; rw [hb, h.rst]; omega)
def impT (t : TS) (l r : Int) : TS := if t.isFree l then t.put l r else t
def watchL (ls : List (List Int)) (c : List Int) (id : Int) (k : Nat) : List (List Int) := (c.take k).foldl (fun ls l => putL ls (slotN l) id) ls
def addF (S : WS) (c : List Int) : WS :=
  let c' := firF S.t c (min 2 c.length)
  let v := S.t.value (c'.getD 0 0)
  { t := if v = 0 ∧ (c.length = 1 ∨ S.t.value (c'.getD 1 0) < 0) then impT S.t (c'.getD 0 0) S.cl.length else S.t
    cl := S.cl ++ [c'], ls := watchL S.ls c' S.cl.length 2, dn := S.dn, bk := if v < 0 then (S.cl.length : Int) else S.bk }
theorem Add_nil (v : Value) (w : World) : Calls Try.prog 13 #[.pointer none, v] w fun e w' => e = .returned (.tuple #[.int .i64 (-1), .bool false]) ∧ w = w' := by
  go_enter Try.func13, Try.ntmps13
  go_wp2
  go_ret2
  exact ⟨rfl, rfl⟩
theorem Add_none (wb : Nat) (a : Option Addr) (cap : Nat) (w : World) : Calls Try.prog 13 #[.pointer (some ⟨wb, 0, none⟩), .slice a 0 cap] w fun e w' => e = .returned (.tuple #[.int .i64 (-1), .bool false]) ∧ w = w' := by
  go_enter Try.func13, Try.ntmps13
  go_wp2
  go_ret2
  exact ⟨rfl, rfl⟩
end Go.Proofs.Ytghlgegfokjgbaa
/-
  Package watch: Add, walked.
-/
namespace Go.Proofs.Ytghlgegfokjgbaa
open Go.ChangeShapes Go.WideShapes Go.ChangeAt Go.RowKit
set_option linter.unusedVariables false
theorem trail_lt {w : World} {t : Nat} {s : TS} {fp : List Nat} (h : TrailAt w t s fp) : ∀ k ∈ fp, k < w.heap.size := by
  obtain ⟨vl, gm, cm, vv, vw, hp, rfl⟩ := h.parts
  intro j hj
  simp only [List.mem_cons, List.mem_append] at hj
  rcases hj with rfl | rfl | hj | hj | hj
  · exact hp.b.lt
  · exact hp.m.lt _ rfl
  · exact hp.l.lt _ (own_mem hj)
  · exact hp.v.lt _ (own_mem hj)
  · exact hp.h.lt _ (own_mem hj)
/-- What a call leaves that turns the trail alone. -/
def TrP (B : Nat) (w : World) (r : Nat → Nat) (wb t : Nat) (S : WS) (vl vs vd : Value) (us xs : List Value) (w' : World) : Prop :=
  ∃ r', WV B w' r' wb t S vl vs vd us xs ∧ Chg (fun b => r b ≠ 0) w w' ∧ ∀ b, b < w.heap.size → r' b = r b
theorem WV.done {B : Nat} {w w' : World} {r : Nat → Nat} {wb t : Nat} {S : WS} {vl vs vd : Value} {us xs : List Value} (h : WV B w r wb t S vl vs vd us xs) (hB : B ≤ w.heap.size) {fp : List Nat} (hf : ∀ k ∈ fp, r k = 1) {s' : TS} (hD : Done w fp t s' w') :
    TrP B w r wb t { S with t := s' } vl vs vd us xs w' := by
  obtain ⟨fp', hT, hc, hn⟩ := hD
  have hlt := trail_lt hT
  have hold : ∀ b, b < w.heap.size → (if b ∈ fp' then 1 else r b) = r b := fun b hb => by
    split
    · rename_i hm
      rcases hn b hm with h1 | h1
      · exact (hf b h1).symm
      · omega
    · rfl
  have hx := h.wx.step (K' := [1]) (r' := fun b => if b ∈ fp' then 1 else r b) h.st.lt hc (fun b _ hb => by rw [hf b hb]; simp) (by simp) hold (fun b hb => by
    show (if b ∈ fp' then 1 else r b) = 0
    rw [if_neg (fun hm => by have := hlt b hm; omega)]
    exact h.hi b (Nat.le_trans hc.size hb)) hB
  exact ⟨_, ⟨hx.st (by simp), hx.rst, ⟨fp', hT, fun k hk => if_pos hk⟩, hx.cl (by simp), hx.rcl (by simp), fun j hj => hx.ui j hj (by simp <;> omega), hx.ls (by simp), hx.rls (by simp), fun s hs => hx.xi s hs (by simp <;> omega), hx.dn (by simp), hx.lo, hx.hi⟩,
    hc.mono (fun b hb => by show r b ≠ 0; rw [hf b hb]; omega), hold⟩
/-- A trail's numbers are small. -/
structure TB (t : TS) : Prop where
  l : t.l.length ≤ 100000
  wh : t.wh.length ≤ 100000
  n0 : 0 ≤ t.now
  n1 : t.now ≤ 1000000000
theorem imply_ {B : Nat} {w : World} {r : Nat → Nat} {wb t : Nat} {S : WS} {vl vs vd : Value} {us xs : List Value} (h : WV B w r wb t S vl vs vd us xs) (hB : B ≤ w.heap.size) (hb : TB S.t) (l id : Int) :
    Calls Try.prog 31 #[.pointer (some ⟨t, 0, none⟩), .int .i64 l, .int .i64 id] w fun e w' => e = .returned (.bool (S.t.isFree l)) ∧ TrP B w r wb t { S with t := impT S.t l id } vl vs vd us xs w' := by
  obtain ⟨fp, hT, hf⟩ := h.tr
  obtain ⟨b1, b2, b3, b4⟩ := hb
  by_cases hl : S.t.isFree l = true
  · unfold impT
    rw [if_pos hl, hl]
    refine (trail_Imply_yes hT l id hl (by omega) (by omega) b3 (by omega)).mono ?_
    rintro e w' ⟨rfl, hD⟩
    exact ⟨rfl, h.done hB hf hD⟩
  · have hl' : S.t.isFree l = false := by simpa using hl
    unfold impT
    rw [if_neg hl, hl']
    refine (trail_Imply_no hT l id hl').mono ?_
    rintro e w' ⟨rfl, rfl⟩
    exact ⟨rfl, r, h, Chg.refl _ _, fun _ _ => rfl⟩
/-- The lists are few and short. -/
def LB (k : Nat) (ls : List (List Int)) : Prop := ls.length ≤ 3000 ∧ ∀ s, (ls.getD s []).length ≤ k
theorem LB.put {k : Nat} {ls : List (List Int)} (h : LB k ls) {l : Int} (hl : lit3 l) (id : Int) : LB (k + 1) (putL ls (slotN l) id) := by
  obtain ⟨h1, h2⟩ := h
  have hs := slotI_bd hl
  have hc := slotN_cast hl
  have hp := padL_len ls (slotN l)
  have hpd : ∀ s, ((padL ls (slotN l)).getD s []).length ≤ k := fun s => by
    unfold padL
    rcases Nat.lt_or_ge s ls.length with hlt | hge
    · have e : (ls ++ List.replicate (slotN l + 1 - ls.length) ([] : List Int)).getD s [] = ls.getD s [] := by simp only [List.getD]; rw [List.getElem?_append_left hlt]
      rw [e]
      exact h2 s
    · have e : (ls ++ List.replicate (slotN l + 1 - ls.length) ([] : List Int)).getD s [] = [] := by
        simp only [List.getD]
        rw [List.getElem?_append_right hge, List.getElem?_replicate]
        split <;> rfl
      rw [e]
      simp
  unfold putL
  refine ⟨by rw [List.length_set, hp]; omega, fun s => ?_⟩
  by_cases e : slotN l = s
  · subst e
    rw [getD_set_self _ _ _ _ (by rw [hp]; omega), List.length_append]
    have := hpd (slotN l)
    simp only [List.length_singleton]
    omega
  · rw [getD_set_ne _ _ _ _ _ e]
    have := hpd s
    omega
theorem LB.mono {k m : Nat} {ls : List (List Int)} (h : LB k ls) (hm : k ≤ m) : LB m ls := ⟨h.1, fun s => Nat.le_trans (h.2 s) hm⟩
theorem watchL_step (ls : List (List Int)) (c : List Int) (id : Int) (k : Nat) (hk : k < c.length) : watchL ls c id (k + 1) = putL (watchL ls c id k) (slotN (c.getD k 0)) id := by
  unfold watchL
  rw [List.take_succ_eq_append_getElem hk, List.foldl_append]
  simp [List.getD, hk]
theorem LB.watch {k : Nat} {ls : List (List Int)} (h : LB k ls) {c : List Int} (hc : Lits3 c) (id : Int) : ∀ j, j ≤ c.length → LB (k + j) (watchL ls c id j)
  | 0, _ => by unfold watchL; simpa using h
  | j + 1, hj => by
    rw [watchL_step _ _ _ _ (by omega)]
    exact (LB.watch h hc id j (by omega)).put (hc.at_ j) id
theorem watchL_2 (ls : List (List Int)) (c : List Int) (id : Int) : watchL ls c id (min 2 c.length) = watchL ls c id 2 := by
  unfold watchL
  congr 1
  rcases Nat.lt_or_ge c.length 2 with h | h
  · rw [Nat.min_eq_right (by omega), List.take_length, List.take_of_length_le (by omega)]
  · rw [Nat.min_eq_left h]
end Go.Proofs.Ytghlgegfokjgbaa
/-
  Package watch: Add, walked.
-/
namespace Go.Proofs.Ytghlgegfokjgbaa
open Go.ChangeShapes Go.WideShapes Go.ChangeAt Go.RowKit
set_option linter.unusedVariables false
theorem value_q {B : Nat} {w : World} {r : Nat → Nat} {wb t : Nat} {S : WS} {vl vs vd : Value} {us xs : List Value} (h : WV B w r wb t S vl vs vd us xs) (hs : Signs S.t) (n : Nat) (l : Int) :
    Calls Try.prog 30 #[.pointer (some ⟨t, 0, none⟩), .int .i64 l] (w.drewN n) fun e w' => e = .returned (.int .i64 (S.t.value l)) ∧ w' = w.drewN n := by
  obtain ⟨fp, hT, -⟩ := h.tr
  exact (trail_Value (hT.chg (S := fun _ => False) ((Chg.refl _ _).drewN n) (fun _ _ h => h)) hs l).mono fun e w' ⟨h1, h2⟩ => ⟨h1, h2.symm⟩
theorem WV.setBk {B : Nat} {w : World} {r : Nat → Nat} {wb t : Nat} {S : WS} {vl vs vd : Value} {us xs : List Value} (h : WV B w r wb t S vl vs vd us xs) (hB : B ≤ w.heap.size) (b : Int) :
    WV B (w.setCell ⟨wb, 4, none⟩ (.int .i64 b)) r wb t { S with bk := b } vl vs vd us xs := by
  have hy := h.wx.poke h.st.lt hB ⟨wb, 4, none⟩ 2 h.rst (.int .i64 b)
  exact ⟨h.st.set_ 4 _, hy.rst, hy.tr (by simp), hy.cl (by simp), hy.rcl (by simp), fun j hj => hy.ui j hj (by simp <;> omega), hy.ls (by simp), hy.rls (by simp), fun s hs => hy.xi s hs (by simp <;> omega), hy.dn (by simp), hy.lo, hy.hi⟩
set_option maxHeartbeats 4000000 in
set_option maxRecDepth 100000 in
theorem Add_ {B : Nat} {w : World} {r : Nat → Nat} {wb t : Nat} {S : WS} (h : WAt B w r wb t S) (hB : B ≤ w.heap.size) (hs : Signs S.t) (hb : TB S.t) {v : Value} {c : List Int} (hi : Ints w v c) (hl : Lits3 c) (hn : 0 < c.length) (hn2 : c.length ≤ 1000) (hLB : LB 1000 S.ls) (hcl : S.cl.length ≤ 1000) :
    Calls Try.prog 13 #[.pointer (some ⟨wb, 0, none⟩), v] w fun e w' => e = .returned (.tuple #[.int .i64 S.cl.length, .bool true]) ∧ WPost B w r wb t (addF S c) w' := by
  have HW := Lib.hid h
  obtain ⟨vl0, vs0, vd0, us0, xs0, h0⟩ := h
  have c1 := h0.cells.c1
  obtain ⟨la, lc, hv0⟩ : ∃ a cap, vl0 = .slice a S.cl.length cap := by
    rcases h0.cl.form with ⟨rfl, e0, -⟩ | ⟨g, cap, rfl, -⟩
    · exact ⟨_, _, by rw [e0]⟩
    · exact ⟨_, _, rfl⟩
  obtain ⟨k0, hk0⟩ : ∃ k0, k0 = S.cl.length := ⟨_, rfl⟩
  rw [hv0, ← hk0] at c1
  rw [← hk0] at hcl ⊢
  have HI := Lib.hid hi
  obtain ⟨va, vc, rfl, -, -, -, -⟩ := hi
  obtain ⟨n, hnn⟩ : ∃ n, n = c.length := ⟨_, rfl⟩
  rw [← hnn] at hn hn2 HI ⊢
  obtain ⟨c', hc'⟩ : ∃ c', c' = firF S.t c (min 2 c.length) := ⟨_, rfl⟩
  have hcl' : c'.length = n := by rw [hc', firF_len, hnn]
  have hl' : Lits3 c' := by rw [hc']; exact hl.firF _ _
  have HAF : Hid (addF S c = { t := if S.t.value (c'.getD 0 0) = 0 ∧ (n = 1 ∨ S.t.value (c'.getD 1 0) < 0) then impT S.t (c'.getD 0 0) S.cl.length else S.t, cl := S.cl ++ [c'], ls := watchL S.ls c' S.cl.length 2, dn := S.dn, bk := if S.t.value (c'.getD 0 0) < 0 then (S.cl.length : Int) else S.bk }) := Lib.hid (by unfold addF; rw [← hc', ← hnn])
  have n0 : ((n : Int) == 0) = false := by rw [beq_eq_false_iff_ne]; omega
  have HL := Lib.hid hl
  have HS := Lib.hid hs
  have HN := Lib.hid hnn
  have HK := Lib.hid hk0
  have HC' := Lib.hid hc'
  have HCL' := Lib.hid hcl'
  have HL' := Lib.hid hl'
  clear h0 hv0 hl hs hnn hk0 hc' hcl' hl'
  go_enter Try.func13, Try.ntmps13
  go_wp2_with fail
  refine (slices_Clone HI.out (by have := HN.out; omega)).mono ?_
  rintro e w1 ⟨u, rfl, hcl⟩
  obtain ⟨hr1, hown, hb1⟩ := hcl
  have hu1 : LR w1 u c u.ownBlock := LR.of_row hr1
  obtain ⟨ua, uc, hue, huc, -⟩ := hu1.form
  rw [← HN.out] at hue huc
  have hF1 : FirW B w1 r wb t S u u.ownBlock c w1 := ⟨HW.out.below hb1, hu1, fun b hb => by
    have := hown b hb
    obtain ⟨_, _, _, _, _, q⟩ := HW.out
    exact q.hi b this, Chg.refl _ _⟩
  have HF1 := Lib.hid hF1
  have HB1 := Lib.hid hb1
  have HOWN := Lib.hid hown
  have HUE := Lib.hid hue
  subst hue
  clear hr1 hown hb1 hu1 hF1 c1
  go_wp2_with fail
  refine (first_ HF1.out HS.out HL.out (by have := HN.out; omega)).mono ?_
  rintro e w2 ⟨rfl, hF2⟩
  rw [← HC'.out] at hF2
  obtain ⟨⟨vl, vs, vd, us, xs, h2⟩, hu2, hz2, hg2⟩ := hF2
  have c1 := h2.cells.c1
  have f1 := h2.st.frozen 1
  have lw := h2.st.lt
  have HU2 := Lib.hid hu2
  have HZ2 := Lib.hid hz2
  have HG2 := Lib.hid hg2
  have H2 := Lib.hid h2
  clear hu2 hz2 hg2 h2
  obtain ⟨la2, lc2, hv2⟩ : ∃ a cap, vl = .slice a k0 cap := by
    rw [HK.out]
    rcases H2.out.cl.form with ⟨rfl, e0, -⟩ | ⟨g, cap, rfl, -⟩
    · exact ⟨_, _, by rw [e0]⟩
    · exact ⟨_, _, rfl⟩
  have HV2 := Lib.hid hv2
  subst hv2
  obtain ⟨u, hu⟩ : ∃ u : Value, u = .slice ua n uc := ⟨_, rfl⟩
  have HU := Lib.hid hu
  go_wp2_with (at_builtin; refine wpList_app rfl (.tmp 31) (.tmp 33) 22 rfl 23 (.slice none 0 0) 1 24 Try.underlying22 infoL rfl (by decide) (.slice la2 k0 lc2) k0 us rfl ?ho w2.heap.size 0 1 1 [.slice ua n uc] rfl rfl ?hn ?hs ?c1 ?c2 ?_)
  case ho => have := H2.out.cl; rw [← HK.out] at this; exact this.alloc _
  case hn => exact cellNew _ _ _ _ rfl
  case hs => exact oneCell1 rfl
  case c1 => unfold maxLen; omega
  case c2 => omega
  intro v' w3 hp
  obtain ⟨gl, cl, rfl, -, -, -⟩ := hp.1.some_ (by omega)
  have hA : Below w2.heap.size w2 (w2.alloc (.cells #[.slice ua n uc] 23)) := (Below.refl _ _).alloc (Nat.le_refl _) _
  have h3 := (H2.out.adopt (Value.slice ua n uc).ownBlock (6 + 2 * k0) (fun b hb => ⟨HZ2.out b hb, Nat.le_trans hB (HOWN.out b hb), HU2.out.lt b hb⟩)).chg (T := fun _ => False) (Chg.of_below hA) (fun _ _ h => h)
  have hk : Blk w3 wb 58 #[.pointer (some ⟨t, 0, none⟩), .slice la2 k0 lc2, vs, vd, .int .i64 S.bk] := h3.st.chg hp.2.1 (fun e => by have q1 := h3.rcl wb e; have q2 := h3.rst; omega)
  have k1 : w3.cell? ⟨wb, 1, none⟩ = some (.slice la2 k0 lc2) := hk.cell 1
  have e1 : w3.frozen? ⟨wb, 1, none⟩ = false := hk.frozen 1
  have hp' : AppPost (w2.alloc (.cells #[.slice ua n uc] 23)) 23 1 (.slice la2 k0 lc2) (S.cl.length + 1) (us ++ [.slice ua n uc]) (.slice (some ⟨gl, 0, none⟩) (k0 + 1) cl) w3 := by
    rw [← HK.out]; exact hp
  obtain ⟨r3, h4, hc4, hr4⟩ := h3.addCl (Nat.le_trans (Nat.le_trans hB (Nat.le_trans HB1.out.size HG2.out.size)) hA.size) (fun e => by have := HCL'.out; rw [e] at this; simp at this; omega) (HU2.out.below hA) (fun b hb => by unfold owner; rw [if_pos hb, HK.out]) hp'
  have hw4 : Chg (fun b => r b ≠ 0) w (w3.setCell ⟨wb, 1, none⟩ (.slice (some ⟨gl, 0, none⟩) (k0 + 1) cl)) := by
    refine (((Chg.of_below HB1.out).trans HG2.out (fun i hi => .inr (HOWN.out i hi))).trans (Chg.of_below (S := fun _ => False) hA) (fun _ h => h.elim)).trans hc4 (fun i hi => ?_)
    by_cases e : (Value.slice ua n uc).ownBlock = some i
    · exact .inr (HOWN.out i e)
    · left
      have hi : owner r (Value.slice ua n uc).ownBlock (6 + 2 * k0) i ≠ 0 := hi
      unfold owner at hi
      rwa [if_neg e] at hi
  have hw5 : ∀ b, b < w.heap.size → r3 b = r b := fun b hb => by
    have q1 : b < w2.heap.size := Nat.lt_of_lt_of_le (Nat.lt_of_lt_of_le hb HB1.out.size) HG2.out.size
    rw [hr4 b (Nat.lt_of_lt_of_le q1 hA.size)]
    unfold owner
    rw [if_neg (fun e => by have := HOWN.out b e; omega)]
  have H4 := Lib.hid h4
  have HW4 := Lib.hid hw4
  have HW5 := Lib.hid hw5
  clear hp hp' h3 h4 hc4 hr4 hk hA hw4 hw5 c1 f1
  have hmi : (if (n : Int) < 2 then (n : Int) else 2) = ((min 2 n : Nat) : Int) := by split <;> omega
  obtain ⟨m, hm⟩ : ∃ m, m = min 2 n := ⟨_, rfl⟩
  rw [← hm] at hmi
  have hmn : m ≤ n := by omega
  have HM := Lib.hid hm
  clear hm
  go_wp2
  obtain ⟨wx, hwx⟩ : ∃ wx, wx = w3.setCell ⟨wb, 1, none⟩ (.slice (some ⟨gl, 0, none⟩) (k0 + 1) cl) := ⟨_, rfl⟩
  rw [← hwx] at H4 HW4 ⊢
  clear hwx k1 e1
  have hBx : B ≤ wx.heap.size := Nat.le_trans hB HW4.out.size
  go_loopw [8, 43] (fun _ i wr => ∃ k : Nat, k ≤ m ∧ i = .int .i64 k ∧ PutP B wx r3 wb t { S with cl := S.cl ++ [c'], ls := watchL S.ls c' k0 k } (.slice (some ⟨gl, 0, none⟩) (k0 + 1) cl) vd (us ++ [.slice ua n uc]) wr) (fun _ i _ => m - (intOf i).toNat)
  case atStart => exact ⟨0, Nat.zero_le _, rfl, r3, vs, xs, H4.out, Chg.refl _ _, fun _ _ => rfl⟩
  case round =>
    obtain ⟨k, hk, rfl, r5, vs5, xs5, h5, hc5, hr5⟩ := hrel
    have hus : us.length = k0 := by rw [row_len H2.out.cl, HK.out]
    have hu5 : ∃ g, LR wr (.slice ua n uc) c' g := by
      obtain ⟨g, q1, -⟩ := h5.ui k0 (by simp [HK.out])
      have e1 : (us ++ [Value.slice ua n uc]).getD k0 undef = .slice ua n uc := by rw [← hus]; exact getD_snoc_eq _ _ _
      have e2 : (S.cl ++ [c']).getD k0 [] = c' := by rw [HK.out]; exact getD_snoc_eq _ _ _
      have q1 : LR wr ((us ++ [Value.slice ua n uc]).getD k0 undef) ((S.cl ++ [c']).getD k0 []) g := q1.1
      rw [e1, e2] at q1
      exact ⟨g, q1⟩
    obtain ⟨gu, hu5⟩ := hu5
    by_cases hlt : (k : Int) < (m : Int)
    · have hkc : k < c'.length := by rw [HCL'.out]; omega
      obtain ⟨b, cap', hv, -, x0, -⟩ := hu5.at_ hkc
      injection hv with q1 q2 q3
      subst q1
      have hlk := HL'.out.at_ k
      have hstep := watchL_step S.ls c' k0 k hkc
      have hlb := hLB.watch HL'.out k0 k (by omega)
      obtain ⟨x, hx⟩ : ∃ x, x = c'.getD k 0 := ⟨_, rfl⟩
      rw [← hx] at x0 hlk hstep
      have hput := wput h5 (Nat.le_trans hBx hc5.size) x hlk k0 (fun s hs => Nat.le_trans (hlb.2 s) (by omega)) (Nat.le_trans hlb.1 (by omega))
      have HP := Lib.hid hput
      have HST := Lib.hid hstep
      have HC5 := Lib.hid hc5
      have HR5 := Lib.hid hr5
      clear h5 hc5 hr5 hus hu5 hkc hlk hstep hlb hx hput q2 q3
      go_wp2_with fail
      refine HP.out.mono ?_
      rintro e w6 ⟨rfl, hq⟩
      have HQ := Lib.hid (PutP.trans HC5.out HR5.out hq)
      clear hq
      go_wp2
      go_roundw
      case rel => exact ⟨k + 1, by omega, by go_num, by rw [HST.out]; exact HQ.out⟩
      case measure => simp [intOf]; omega
    · have hkm : k = m := by omega
      have hls : watchL S.ls c' k0 k = watchL S.ls c' k0 2 := by rw [hkm, HM.out, ← HCL'.out]; exact watchL_2 _ _ _
      rw [hls] at h5
      obtain ⟨b, cap', hv, -, x0, -⟩ := hu5.at_ (j := 0) (by rw [HCL'.out]; omega)
      have HX1 : Hid (1 < n → wr.cell? ⟨b, 1, none⟩ = some (.int .i64 (c'.getD 1 0))) := Lib.hid fun h1 => by
        obtain ⟨b', cap'', hv', -, x1, -⟩ := hu5.at_ (j := 1) (by rw [HCL'.out]; omega)
        rw [hv'] at hv
        injection hv with q1 q2 q3
        injection q1 with q1
        injection q1 with q1
        rw [← q1]; exact x1
      injection hv with q1 q2 q3
      subst q1
      obtain ⟨x, hx⟩ : ∃ x, x = c'.getD 0 0 := ⟨_, rfl⟩
      obtain ⟨y, hy⟩ : ∃ y, y = c'.getD 1 0 := ⟨_, rfl⟩
      rw [← hx] at x0
      rw [← hy] at HX1
      have c0 := h5.cells.c0
      have f4 := h5.st.frozen 4
      have c4 := h5.cells.c4
      have lw5 := h5.st.lt
      obtain ⟨vf, hvf⟩ : ∃ vf, vf = S.t.value := ⟨_, rfl⟩
      have HV : Hid (∀ (q : Nat) l, Calls Try.prog 30 #[.pointer (some ⟨t, 0, none⟩), .int .i64 l] (wr.drewN q) fun e w' => e = .returned (.int .i64 (vf l)) ∧ w' = wr.drewN q) := Lib.hid fun q l => by rw [hvf]; exact value_q h5 HS.out q l
      have HAF2 : Hid (addF S c = { t := if vf x = 0 ∧ (n = 1 ∨ vf y < 0) then impT S.t x k0 else S.t, cl := S.cl ++ [c'], ls := watchL S.ls c' k0 2, dn := S.dn, bk := if vf x < 0 then (k0 : Int) else S.bk }) := Lib.hid (by rw [HAF.out, hvf, hx, hy, HK.out])
      have H5 := Lib.hid h5
      have HC5 := Lib.hid hc5
      have HR5 := Lib.hid hr5
      have HVF := Lib.hid hvf
      clear h5 hc5 hr5 hus hu5 hkm hls hx hy hvf q2 q3 HAF
      have hBr : B ≤ wr.heap.size := Nat.le_trans hBx HC5.out.size
      by_cases hv0 : vf x < 0
      · have hz : vf x ≠ 0 := by omega
        have HZ := Lib.hid hz
        clear hz
        go_wp2
        go_quiet ((go_at_call 30; exact Calls.quiet_of_same (HV.out _ _)))
        go_wp2
        go_ret2
        refine ⟨rfl, ?_⟩
        rw [HAF2.out, if_neg (fun h => HZ.out h.1), if_pos hv0]
        refine WPost.trans HW4.out HW5.out (WPost.trans HC5.out HR5.out ⟨r5, ⟨_, _, _, _, _, (H5.out.chg (T := fun _ => False) ((Chg.refl _ _).drewN nq) (fun _ _ h => h)).setBk hBr k0⟩, ((Chg.refl _ wr).drewN nq).setCell (p := ⟨wb, 4, none⟩) (.inl (by show r5 wb ≠ 0; rw [H5.out.rst]; omega)) _, fun _ _ => rfl⟩)
      · by_cases hv1 : 0 < vf x
        · have hz : (vf x == 0) = false := by rw [beq_eq_false_iff_ne]; omega
          have hz' : vf x ≠ 0 := by omega
          have HZ := Lib.hid hz'
          clear hz'
          go_wp2
          go_quiet ((go_at_call 30; exact Calls.quiet_of_same (HV.out _ _)))
          go_wp2
          go_quiet ((go_at_call 30; exact Calls.quiet_of_same (HV.out _ _)))
          go_wp2
          go_ret2
          refine ⟨rfl, ?_⟩
          rw [HAF2.out, if_neg (fun h => HZ.out h.1), if_neg (by omega : ¬ vf x < 0)]
          refine WPost.trans HW4.out HW5.out (WPost.trans HC5.out HR5.out (WPost.below ⟨_, _, _, _, _, H5.out⟩ (below_drewN (below_drewN (Below.refl _ _) _) _)))
        · have hz : (vf x == 0) = true := by rw [beq_iff_eq]; omega
          have hz' : vf x = 0 := by omega
          have HZ := Lib.hid hz'
          clear hz'
          by_cases hn1 : n = 1
          · have hb1 : ((n : Int) == 1) = true := by rw [beq_iff_eq]; omega
            have HN1 := Lib.hid hn1
            clear hn1
            go_wp2
            go_quiet ((go_at_call 30; exact Calls.quiet_of_same (HV.out _ _)))
            go_wp2
            have hnq := H5.out.chg (T := fun _ => False) ((Chg.refl _ wr).drewN nq) (fun _ _ h => h)
            have bnq : Below wr.heap.size wr (wr.drewN nq) := below_drewN (Below.refl _ _) _
            generalize wr.drewN nq = wq at *
            have c0q : wq.cell? ⟨wb, 0, none⟩ = some (.pointer (some ⟨t, 0, none⟩)) := hnq.cells.c0
            have x0q : wq.cell? ⟨b, 0, none⟩ = some (.int .i64 x) := (bnq.cell (p := ⟨b, 0, none⟩) (World.block_lt_of_cell? wr _ x0)).trans x0
            have BNq := Lib.hid bnq
            have HNq := Lib.hid hnq
            clear bnq hnq
            go_quiet (fail)
            go_wp2
            have hnz := HNq.out.chg (T := fun _ => False) ((Chg.refl _ wq).drewN nq) (fun _ _ h => h)
            have bnz : Below wr.heap.size wr (wq.drewN nq) := below_drewN BNq.out _
            generalize wq.drewN nq = wz at *
            have c0z : wz.cell? ⟨wb, 0, none⟩ = some (.pointer (some ⟨t, 0, none⟩)) := hnz.cells.c0
            have x0z : wz.cell? ⟨b, 0, none⟩ = some (.int .i64 x) := (bnz.cell (p := ⟨b, 0, none⟩) (World.block_lt_of_cell? wr _ x0)).trans x0
            have BNz := Lib.hid bnz
            have HNz := Lib.hid hnz
            clear bnz hnz
            have hBz : B ≤ wz.heap.size := Nat.le_trans hBr BNz.out.size
            go_region_with (go_at_call 31; refine (imply_ (HNz.out.chg (T := fun _ => False) ((Chg.refl _ wz).drew) (fun _ _ h => h)) hBz hb x k0).mono ?_; rintro e w7 ⟨rfl, hT⟩; have HT := Lib.hid hT; clear hT)
            all_goals
              go_wp2
              go_ret2
              refine ⟨rfl, ?_⟩
              rw [HAF2.out, if_pos ⟨HZ.out, .inl HN1.out⟩, if_neg (by omega : ¬ vf x < 0)]
              obtain ⟨r7, q1, q2, q3⟩ := HT.out
              exact WPost.trans HW4.out HW5.out (WPost.trans HC5.out HR5.out ⟨r7, ⟨_, _, _, _, _, q1⟩, (((Chg.of_below BNz.out).trans (S' := fun _ => False) ((Chg.refl _ wz).drew) (fun _ h => h.elim)).trans q2 (fun i hi => .inl hi)), fun b hb => q3 b (Nat.lt_of_lt_of_le hb BNz.out.size)⟩)
          · have hb1 : ((n : Int) == 1) = false := by rw [beq_eq_false_iff_ne]; omega
            have HN1 := Lib.hid hn1
            have x1 := HX1.out (by omega)
            have n1 : (1 : Int) < (n : Int) := by omega
            clear hn1
            by_cases hy0 : vf y < 0
            · go_wp2
              go_quiet ((go_at_call 30; exact Calls.quiet_of_same (HV.out _ _)))
              go_wp2
              have hnq := H5.out.chg (T := fun _ => False) ((Chg.refl _ wr).drewN nq) (fun _ _ h => h)
              have bnq : Below wr.heap.size wr (wr.drewN nq) := below_drewN (Below.refl _ _) _
              generalize wr.drewN nq = wq at *
              have c0q : wq.cell? ⟨wb, 0, none⟩ = some (.pointer (some ⟨t, 0, none⟩)) := hnq.cells.c0
              have x0q : wq.cell? ⟨b, 0, none⟩ = some (.int .i64 x) := (bnq.cell (p := ⟨b, 0, none⟩) (World.block_lt_of_cell? wr _ x0)).trans x0
              have x1q : wq.cell? ⟨b, 1, none⟩ = some (.int .i64 y) := (bnq.cell (p := ⟨b, 1, none⟩) (World.block_lt_of_cell? wr _ x1)).trans x1
              have HVq : Hid (∀ (q : Nat) l, Calls Try.prog 30 #[.pointer (some ⟨t, 0, none⟩), .int .i64 l] (wq.drewN q) fun e w' => e = .returned (.int .i64 (vf l)) ∧ w' = wq.drewN q) := Lib.hid fun q l => by rw [HVF.out]; exact value_q hnq HS.out q l
              have BNq := Lib.hid bnq
              have HNq := Lib.hid hnq
              clear bnq hnq
              go_quiet ((go_at_call 30; exact Calls.quiet_of_same (HVq.out _ _)))
              go_wp2
              have hnz := HNq.out.chg (T := fun _ => False) ((Chg.refl _ wq).drewN nq) (fun _ _ h => h)
              have bnz : Below wr.heap.size wr (wq.drewN nq) := below_drewN BNq.out _
              generalize wq.drewN nq = wz at *
              have c0z : wz.cell? ⟨wb, 0, none⟩ = some (.pointer (some ⟨t, 0, none⟩)) := hnz.cells.c0
              have x0z : wz.cell? ⟨b, 0, none⟩ = some (.int .i64 x) := (bnz.cell (p := ⟨b, 0, none⟩) (World.block_lt_of_cell? wr _ x0)).trans x0
              have BNz := Lib.hid bnz
              have HNz := Lib.hid hnz
              clear bnz hnz
              have hBz : B ≤ wz.heap.size := Nat.le_trans hBr BNz.out.size
              go_region_with (go_at_call 31; refine (imply_ (HNz.out.chg (T := fun _ => False) ((Chg.refl _ wz).drew) (fun _ _ h => h)) hBz hb x k0).mono ?_; rintro e w7 ⟨rfl, hT⟩; have HT := Lib.hid hT; clear hT)
              all_goals
                go_wp2
                go_ret2
                refine ⟨rfl, ?_⟩
                rw [HAF2.out, if_pos ⟨HZ.out, .inr hy0⟩, if_neg (by omega : ¬ vf x < 0)]
                obtain ⟨r7, q1, q2, q3⟩ := HT.out
                exact WPost.trans HW4.out HW5.out (WPost.trans HC5.out HR5.out ⟨r7, ⟨_, _, _, _, _, q1⟩, (((Chg.of_below BNz.out).trans (S' := fun _ => False) ((Chg.refl _ wz).drew) (fun _ h => h.elim)).trans q2 (fun i hi => .inl hi)), fun b hb => q3 b (Nat.lt_of_lt_of_le hb BNz.out.size)⟩)
            · go_wp2
              go_quiet ((go_at_call 30; exact Calls.quiet_of_same (HV.out _ _)))
              go_wp2
              have hnq := H5.out.chg (T := fun _ => False) ((Chg.refl _ wr).drewN nq) (fun _ _ h => h)
              have bnq : Below wr.heap.size wr (wr.drewN nq) := below_drewN (Below.refl _ _) _
              generalize wr.drewN nq = wq at *
              have c0q : wq.cell? ⟨wb, 0, none⟩ = some (.pointer (some ⟨t, 0, none⟩)) := hnq.cells.c0
              have x0q : wq.cell? ⟨b, 0, none⟩ = some (.int .i64 x) := (bnq.cell (p := ⟨b, 0, none⟩) (World.block_lt_of_cell? wr _ x0)).trans x0
              have x1q : wq.cell? ⟨b, 1, none⟩ = some (.int .i64 y) := (bnq.cell (p := ⟨b, 1, none⟩) (World.block_lt_of_cell? wr _ x1)).trans x1
              have HVq : Hid (∀ (q : Nat) l, Calls Try.prog 30 #[.pointer (some ⟨t, 0, none⟩), .int .i64 l] (wq.drewN q) fun e w' => e = .returned (.int .i64 (vf l)) ∧ w' = wq.drewN q) := Lib.hid fun q l => by rw [HVF.out]; exact value_q hnq HS.out q l
              have BNq := Lib.hid bnq
              have HNq := Lib.hid hnq
              clear bnq hnq
              go_quiet ((go_at_call 30; exact Calls.quiet_of_same (HVq.out _ _)))
              go_wp2
              go_ret2
              refine ⟨rfl, ?_⟩
              rw [HAF2.out, if_neg (fun h => h.2.elim HN1.out (fun g => by omega)), if_neg (by omega : ¬ vf x < 0)]
              exact WPost.trans HW4.out HW5.out (WPost.trans HC5.out HR5.out (WPost.below ⟨_, _, _, _, _, H5.out⟩ (below_drewN BNq.out _)))
end Go.Proofs.Ytghlgegfokjgbaa
