/-
  Package watch: Run, walked.
-/
import Derived.Test.YtghlgegfokjgbaaWaM
namespace Go.Proofs.Ytghlgegfokjgbaa
open Go.ChangeShapes Go.WideShapes Go.ChangeAt Go.RowKit
set_option linter.unusedVariables false
set_option linter.unusedSimpArgs false
/-- What Run leaves. -/
def RunP (B : Nat) (w : World) (r : Nat → Nat) (wb t : Nat) (E : Int → Bool → WS → Prop) (e : Ending) (w' : World) : Prop :=
  ∃ id fine S', e = .returned (.tuple #[.int .i64 id, .bool fine]) ∧ E id fine S' ∧ WPost B w r wb t S' w'
theorem len_q {B : Nat} {w : World} {r : Nat → Nat} {wb t : Nat} {S : WS} {vl vs vd : Value} {us xs : List Value} (h : WV B w r wb t S vl vs vd us xs) (n : Nat) :
    Calls Try.prog 33 #[.pointer (some ⟨t, 0, none⟩)] (w.drewN n) fun e w' => e = .returned (.int .i64 S.t.l.length) ∧ w' = w.drewN n := by
  obtain ⟨fp, hT, -⟩ := h.tr
  exact (trail_Len (hT.chg (S := fun _ => False) ((Chg.refl _ w).drewN n) (fun _ _ h => h))).mono fun e w' ⟨h1, h2⟩ => ⟨h1, h2.symm⟩
theorem when1 {B : Nat} {w : World} {r : Nat → Nat} {wb t : Nat} {S : WS} {vl vs vd : Value} {us xs : List Value} (h : WV B w r wb t S vl vs vd us xs) (hw : S.t.wh.length = S.t.l.length) (j : Nat) :
    Calls Try.prog 36 #[.pointer (some ⟨t, 0, none⟩), .int .i64 j] w fun e w' => e = .returned (.int .i64 (S.t.wh.getD j 0)) ∧ w = w' :=
  (when_ h hw 0 j).mono fun e w' ⟨h1, h2⟩ => ⟨h1, h2.symm⟩
theorem at_ {B : Nat} {w : World} {r : Nat → Nat} {wb t : Nat} {S : WS} {vl vs vd : Value} {us xs : List Value} (h : WV B w r wb t S vl vs vd us xs) (i : Nat) (hi : i < S.t.l.length) :
    Calls Try.prog 34 #[.pointer (some ⟨t, 0, none⟩), .int .i64 i] w fun e w' => e = .returned (.int .i64 (S.t.l.getD i 0)) ∧ w = w' := by
  obtain ⟨fp, hT, -⟩ := h.tr
  exact trail_At hT i hi
theorem WV.dnCell {B : Nat} {w w1 : World} {r : Nat → Nat} {wb t : Nat} {S : WS} {vl vs vd v' : Value} {us xs : List Value} {gd : Option Nat} {l : List Int} (h : WV B w r wb t S vl vs vd us xs) (hg : ∀ b, gd = some b → r b = 5) (hp : LRPost w gd l v' w1) :
    w1.cell? ⟨wb, 0, none⟩ = some (.pointer (some ⟨t, 0, none⟩)) ∧ w1.frozen? ⟨wb, 3, none⟩ = false ∧ w1.cell? ⟨wb, 3, none⟩ = some vd ∧ wb < w1.heap.size := by
  obtain ⟨g, p1, p2, p3⟩ := hp
  have hb := h.st.chg p2 (fun e => by have h1 := hg wb e; have h2 := h.rst; omega)
  exact ⟨hb.cell 0, hb.frozen 3, hb.cell 3, hb.lt⟩
/-- The place more that was gone through. -/
theorem WV.pushDn {B : Nat} {w w1 : World} {r : Nat → Nat} {wb t : Nat} {S : WS} {vl vs vd v' : Value} {us xs : List Value} {gd : Option Nat} (h : WV B w r wb t S vl vs vd us xs) (hB : B ≤ w.heap.size) (hg : ∀ b, gd = some b → r b = 5) (x : Int) (hx : x = S.t.wh.getD S.dn.length 0) (hp : LRPost w gd (S.dn ++ [x]) v' w1) :
    ∃ r', WV B (w1.setCell ⟨wb, 3, none⟩ v') r' wb t (pushDn S) vl vs v' us xs ∧ Chg (fun b => r b ≠ 0) w (w1.setCell ⟨wb, 3, none⟩ v') ∧ ∀ b, b < w.heap.size → r' b = r b := by
  obtain ⟨g, p1, p2, p3⟩ := hp
  have hold : ∀ b, b < w.heap.size → owner r g 5 b = r b := owner_old p3 (Nat.le_refl _) hg
  have hx5 := h.wx.step (K' := [5]) (r' := owner r g 5) h.st.lt p2 (fun b _ hb => by rw [hg b hb]; simp) (by simp) hold (owner_hi p1.lt p2.size h.hi) hB
  refine ⟨owner r g 5, ?_, ?_, hold⟩
  · have := WV.setDn hx5 (Nat.lt_of_lt_of_le h.st.lt p2.size) (Nat.le_trans hB p2.size) v' (S.dn ++ [x]) g p1 (fun b hb => by unfold owner; rw [if_pos hb])
    unfold Go.Proofs.Ytghlgegfokjgbaa.pushDn
    rw [← hx]
    exact this
  · refine (p2.mono fun b hb => ?_).trans (chg_poke w1 ⟨wb, 3, none⟩ v') (fun b hb => ?_)
    · show r b ≠ 0; rw [hg b hb]; omega
    · have hb : b = wb := hb; exact .inl (by show r b ≠ 0; rw [hb, h.rst]; omega)
theorem visit_ {B : Nat} {w : World} {r : Nat → Nat} {wb t : Nat} {S : WS} {vl vs vd : Value} {us xs : List Value} (h : WV B w r wb t S vl vs vd us xs) (hB : B ≤ w.heap.size) (id : Nat) (wrong : Int) (hok : VisOk S id wrong) (hw3 : lit3 wrong) (hsl : slotN wrong < S.ls.length) :
    Calls Try.prog 37 #[.pointer (some ⟨wb, 0, none⟩), .int .i64 id, .int .i64 wrong] w (VisQ B w r wb t (visitF S id wrong) vl vd us xs (slotN wrong)) := by
  have h0 := List.length_pos_iff.2 hok.c0
  rcases (show (S.cl.getD id []).length = 1 ∨ 2 ≤ (S.cl.getD id []).length by omega) with h1 | h1
  · exact visit_one h id wrong hok.hi h1 _
  · exact visit_two h hB id wrong hok hw3 hsl h1
theorem fin_chg {r1 r3 : Nat → Nat} {wq w4 w6 : World} {g : Option Nat} {k : Nat} (h1 : Chg (fun b => r1 b ≠ 0) wq w4) (h2 : Chg (fun b => owner r3 g k b ≠ 0) w4 w6) (hg : ∀ b, g = some b → wq.heap.size ≤ b) (hr : ∀ b, b < wq.heap.size → r3 b = r1 b) : Chg (fun b => r1 b ≠ 0) wq w6 :=
  h1.trans h2 fun i hi => by
    rcases Nat.lt_or_ge i wq.heap.size with h | h
    · left
      have hi : owner r3 g k i ≠ 0 := hi
      unfold owner at hi
      rw [if_neg (fun e => by have := hg i e; omega), hr i h] at hi
      exact hi
    · exact .inr h
theorem fin_old {r1 r3 : Nat → Nat} {wq : World} {g : Option Nat} {k : Nat} (hg : ∀ b, g = some b → wq.heap.size ≤ b) (hr : ∀ b, b < wq.heap.size → r3 b = r1 b) (b : Nat) (hb : b < wq.heap.size) : owner r3 g k b = r1 b := by
  unfold owner
  rw [if_neg (fun e => by have := hg b e; omega)]
  exact hr b hb
theorem put_size (a : Go.Act) (d : Tmp) (v : Value) : (a.put (some d) v).tmps.size = a.tmps.size := by simp [Act.put]
theorem eval_put_eq (a : Go.Act) (d : Tmp) (v : Value) (h : d < a.tmps.size) : (a.put (some d) v).eval (.tmp d) = v := by simp [Act.eval, Act.put, h]
theorem eval_put_ne (a : Go.Act) (d i : Tmp) (v : Value) (h : d ≠ i) : (a.put (some d) v).eval (.tmp i) = a.eval (.tmp i) := by simp [Act.eval, Act.put, h]
theorem addr_add (b o i : Nat) : (⟨b, o, none⟩ : Addr).add i = ⟨b, o + i, none⟩ := by unfold Addr.add; split <;> simp_all
/-- Behind a clause: what keeps watching. -/
def CutP (B : Nat) (wq : World) (r1 r3 : Nat → Nat) (wb t : Nat) (S3 : WS) (vl vs3 vd : Value) (us xs3 : List Value) (keep : List Int) (kv : Value) (wx : World) : Prop :=
  ∃ gk ka kc, kv = .slice ka keep.length kc ∧ WV B wx r3 wb t S3 vl vs3 vd us xs3 ∧ LR wx kv keep gk ∧ (∀ b, gk = some b → r3 b = 0 ∧ wq.heap.size ≤ b) ∧ Chg (fun b => r1 b ≠ 0) wq wx
/-- Between two clauses of a list. -/
def InnP (B : Nat) (wq : World) (r1 : Nat → Nat) (wb t : Nat) (R : WS → List Int → List Int → Prop) (S' : WS) (x : Int) (s : Nat) (list : List Int) (lv vl vd : Value) (us : List Value) (kv : Value) (rest : List Int) (wi : World) : Prop :=
  ∃ S2 keep r2 vs2 xs2 gk, R S2 keep rest ∧ S2.dn = S'.dn ∧ wrongOf S2 = x ∧ S2.ls.getD s [] = list ∧ s < S2.ls.length ∧ WV B wi r2 wb t S2 vl vs2 vd us xs2 ∧ xs2.getD s undef = lv ∧ Chg (fun b => r1 b ≠ 0) wq wi ∧ (∀ b, b < wq.heap.size → r2 b = r1 b) ∧ LR wi kv keep gk ∧ (∀ b, gk = some b → r2 b = 0 ∧ wq.heap.size ≤ b)
set_option maxHeartbeats 8000000 in
set_option maxRecDepth 100000 in
theorem Run_ {Q : WS → Prop} {R : WS → List Int → List Int → Prop} {E : Int → Bool → WS → Prop} (law : RunLaw Q R E) {B : Nat} {w : World} {r : Nat → Nat} {wb t : Nat} {S : WS} (h : WAt B w r wb t S) (hB : B ≤ w.heap.size) (hb : S.bk < 0) (hok : BackOk S) (hq : Q (backF S)) :
    Calls Try.prog 14 #[.pointer (some ⟨wb, 0, none⟩)] w (RunP B w r wb t E) := by
  have HB0 := Lib.hid (back_ h hB hok)
  obtain ⟨vl, vs, vd, us, xs, h⟩ := h
  have c4 := h.cells.c4
  have LAW := Lib.hid law
  have HQ0 := Lib.hid hq
  clear h hok hq law
  go_enter Try.func14, Try.ntmps14
  go_wp2_with fail
  refine HB0.out.mono ?_
  rintro e w1 ⟨rfl, hw1⟩
  have HW1 := Lib.hid hw1
  clear hw1 c4
  go_wp2_with fail
  go_loopg [4, 5, 6, 7, 8, 9, 10, 11, 12] 200000 (fun gk _ _ _ _ _ _ _ _ _ wr => ∃ S', Q S' ∧ 100000 - S'.dn.length ≤ gk ∧ WPost B w r wb t S' wr)
  case atStart => exact ⟨_, HQ0.out, by omega, HW1.out⟩
  case round =>
    obtain ⟨S', hq, hgk, r1, ⟨vl1, vs1, vd1, us1, xs1, h1⟩, hc1, hr1⟩ := hrel
    have hrb := LAW.out.qb S' hq
    have c0 := h1.cells.c0
    have c3 := h1.cells.c3
    have c2 := h1.cells.c2
    obtain ⟨gd, hd, hgd⟩ := h1.dn
    obtain ⟨da, dc, hdv, -, -⟩ := hd.form
    subst hdv
    obtain ⟨n, hn⟩ : ∃ n, n = S'.dn.length := ⟨_, rfl⟩
    obtain ⟨m, hm⟩ : ∃ m, m = S'.t.l.length := ⟨_, rfl⟩
    rw [← hn] at c3
    have HLQ : Hid (∀ q : Nat, Calls Try.prog 33 #[.pointer (some ⟨t, 0, none⟩)] (wr.drewN q) fun e w' => e = .returned (.int .i64 m) ∧ w' = wr.drewN q) := Lib.hid fun q => by rw [hm]; exact len_q h1 q
    have H1 := Lib.hid h1
    have HRB := Lib.hid hrb
    have HC1 := Lib.hid hc1
    have HR1 := Lib.hid hr1
    have HQ := Lib.hid hq
    have HN := Lib.hid hn
    have HM := Lib.hid hm
    have HD := Lib.hid hd
    have HGD := Lib.hid hgd
    have hm9 : m ≤ 100000 := by rw [hm]; exact hrb.tb.l
    clear h1 hrb hc1 hr1 hq hn hm hd hgd
    by_cases hlt : n < m
    · have hlt' : (n : Int) < (m : Int) := by omega
      go_wp2_with fail
      go_quiet ((go_at_call 33; exact Calls.quiet_of_same (HLQ.out _)))
      have h2 := H1.out.chg (T := fun _ => False) ((Chg.refl _ wr).drewN nq) (fun _ _ h => h)
      have g2 : Chg (fun b => r1 b ≠ 0) wr (wr.drewN nq) := (Chg.refl _ wr).drewN nq
      have hd2 := HD.out.chg (S := fun _ => False) ((Chg.refl _ wr).drewN nq) (fun _ _ h => h)
      generalize wr.drewN nq = wq at *
      clear c0 c2 c3
      have c0 := h2.cells.c0
      have c2 := h2.cells.c2
      have c3 : wq.cell? ⟨wb, 3, none⟩ = some (.slice da n dc) := by rw [HN.out]; exact h2.cells.c3
      obtain ⟨va, vc, hvs⟩ := row_formL h2.ls
      obtain ⟨q, hqq⟩ : ∃ q, q = S'.ls.length := ⟨_, rfl⟩
      rw [hvs, ← hqq] at c2
      obtain ⟨x, hx⟩ : ∃ x, x = S'.t.l.getD n 0 := ⟨_, rfl⟩
      have hlx : lit3 x := by rw [hx]; exact HRB.out.lt.at_ n
      have hwr : wrongOf S' = -x := by unfold wrongOf; rw [← HN.out, hx]
      have hlw : lit3 (-x) := by unfold lit3 at hlx ⊢; omega
      obtain ⟨s, hs⟩ : ∃ s, s = slotN (-x) := ⟨_, rfl⟩
      have hso : slotOf S' = s := by unfold slotOf; rw [hwr, hs]
      have HSL : Hid (∀ W, Calls Try.prog 35 #[.int .i64 (-x)] W fun e w' => e = .returned (.int .i64 s) ∧ W = w') := Lib.hid fun W => by rw [hs, ← slotN_cast hlw]; exact slot_ _ hlw W
      have HAT : Hid (Calls Try.prog 34 #[.pointer (some ⟨t, 0, none⟩), .int .i64 n] wq fun e w' => e = .returned (.int .i64 x) ∧ wq = w') := Lib.hid (by rw [hx]; exact at_ h2 n (by have := HM.out; omega))
      obtain ⟨x0, x1⟩ := hlx
      have H2 := Lib.hid h2
      have G2 := Lib.hid g2
      have HD2 := Lib.hid hd2
      have HVS := Lib.hid hvs
      have HQQ := Lib.hid hqq
      have HSO := Lib.hid hso
      have HWR := Lib.hid hwr
      have HS := Lib.hid hs
      have HLW := Lib.hid hlw
      clear h2 g2 hd2 hvs hqq hso hwr hs hlw hx
      obtain ⟨y, hy⟩ : ∃ y, y = S'.t.wh.getD n 0 := ⟨_, rfl⟩
      by_cases hsq : q ≤ s
      · have hsq' : (q : Int) ≤ (s : Int) := by omega
        have HWN : Hid (∀ W, Below wq.heap.size wq W → Calls Try.prog 36 #[.pointer (some ⟨t, 0, none⟩), .int .i64 n] W fun e w' => e = .returned (.int .i64 y) ∧ W = w') := Lib.hid fun W hW => by
          rw [hy]; exact when1 (H2.out.chg (T := fun _ => False) (Chg.of_below hW) (fun _ _ h => h)) HRB.out.wl n
        have HY := Lib.hid hy
        have f3 := H2.out.st.frozen 3
        have lw := H2.out.st.lt
        clear hy
        go_wp2_with (first | (go_at_call 34; refine (HAT.out).mono ?_; rintro e w' ⟨rfl, rfl⟩) | (go_at_call 35; refine (HSL.out _).mono ?_; rintro e w' ⟨rfl, rfl⟩))
        go_step3
        go_wp2_with (first | (go_at_call 34; refine (HAT.out).mono ?_; rintro e w' ⟨rfl, rfl⟩) | (go_at_call 35; refine (HSL.out _).mono ?_; rintro e w' ⟨rfl, rfl⟩))
        go_region_law (first
          | (refine step_appLR rfl (.tmp 62) (.tmp 69) _ rfl Try.underlying23 infoI (.slice da n dc) S'.dn gd (by simp [Act.eval]) ?ho ⟨wq.heap.size, 0, none⟩ 1 1 [y] (by simp [Act.eval]) rfl ?hn ?c1 ?_
             case ho => have h0 := HD2.out.drew.alloc (.cells #[.int .i64 y] 3); rw [← HN.out] at h0; exact h0
             case hn => intro j hj; obtain rfl : j = 0 := (by simp at hj; omega); exact (Blk.new wq.drew 3 #[.int .i64 y]).cell 0
             case c1 => rw [← HN.out]; omega
             intro v3 wB hpF
             obtain ⟨ao, no, co, rfl⟩ : ∃ ao no co, v3 = .slice ao no co := by
               obtain ⟨_, q, _⟩ := hpF
               obtain ⟨ao, co, q, -⟩ := q.form
               exact ⟨ao, _, co, q⟩
             have HP := Lib.hid hpF
             obtain ⟨kB, rB, cB, fB⟩ := WV.dnCell (H2.out.chg (T := fun _ => False) ((Chg.refl _ wq).drew.alloc (.cells #[.int .i64 y] 3)) (fun _ _ h => h)) HGD.out hpF
             clear hpF)
          | (go_simp; go_at_call 36; refine (HWN.out _ (Below.refl _ _).drew).mono ?_; rintro e w' ⟨rfl, rfl⟩))
        all_goals
          clear kB rB cB fB
          go_wp2_with fail
          have h5 := H2.out.chg (T := fun _ => False) ((Chg.refl _ wq).drew.alloc (.cells #[.int .i64 y] 3)) (fun _ _ h => h)
          obtain ⟨r', q1, q2, q3⟩ := WV.pushDn h5 (Nat.le_trans (Nat.le_trans hB HC1.out.size) (Nat.le_trans G2.out.size (by simp))) HGD.out y (by rw [HY.out, HN.out]) HP.out
          have HF : Hid (WPost B w r wb t (pushDn S') (wB.setCell ⟨wb, 3, none⟩ (.slice ao no co))) := Lib.hid (WPost.trans HC1.out HR1.out ⟨r', ⟨_, _, _, _, _, q1⟩, (G2.out.trans (S' := fun b => r1 b ≠ 0) (((Chg.refl _ wq).drew.alloc (.cells #[.int .i64 y] 3)).trans q2 (fun i hi => .inl hi)) (fun i hi => .inl hi)), fun b hb => q3 b (by have := G2.out.size; simp; omega)⟩)
          have HQ2 : Hid (Q (pushDn S')) := Lib.hid (LAW.out.skip S' HQ.out (by have := HN.out; have := HM.out; omega) (by rw [HSO.out, ← HQQ.out]; exact hsq))
          clear h5 q1 q2 q3
          rw [Exit.noGoto_exit]
          go_wp2_with fail
          go_roundg (100000 - (n + 1))
          case measure => have := HN.out; omega
          case rel => exact ⟨_, HQ2.out, by unfold pushDn; simp only [List.length_append, List.length_singleton]; have := HN.out; omega, HF.out⟩
      · have hsq' : (s : Int) < (q : Int) := by omega
        have hsl : s < S'.ls.length := by have := HQQ.out; omega
        obtain ⟨gs, capS, hvs', z0, zf, -, -⟩ := row_at1 H2.out.ls hsl
        have hva : va = some ⟨gs, 0, none⟩ := by rw [HVS.out] at hvs'; injection hvs' with e1
        subst hva
        obtain ⟨list, hlist⟩ : ∃ list, list = S'.ls.getD s [] := ⟨_, rfl⟩
        obtain ⟨gl, hll, hgl⟩ := H2.out.xi s hsl
        rw [← hlist] at hll
        obtain ⟨la, lc, hlv, hlc, -⟩ := hll.form
        rw [hlv] at z0
        obtain ⟨ll, hlle⟩ : ∃ ll, ll = list.length := ⟨_, rfl⟩
        rw [← hlle] at z0 hlv hlc
        have hk0 : LR wq (.slice la 0 0) [] none := by
          cases la with
          | none => exact LR.nil _
          | some a => exact .inr ⟨rfl, rfl, a, rfl⟩
        have hl9 : ll ≤ 1000 := by rw [hlle, hlist]; exact HRB.out.lb.2 s
        have HIN : Hid (InnP B wq r1 wb t R S' (-x) s list (.slice la ll lc) vl1 (.slice da S'.dn.length dc) us1 (.slice la 0 0) (list.drop 0) wq) := Lib.hid ⟨S', [], r1, vs1, xs1, none, by
          rw [List.drop_zero, hlist, ← HSO.out]
          exact LAW.out.start S' HQ.out (by have := HN.out; have := HM.out; omega) (by rw [HSO.out]; exact hsl), rfl, HWR.out, hlist.symm, hsl, H2.out, hlv, Chg.refl _ _, fun _ _ => rfl, hk0, fun b hb => by cases hb⟩
        have HLL := Lib.hid hlle
        have HLI := Lib.hid hlist
        clear hvs' hgl hll hlv hlle hlist hk0 hsl hy
        go_wp2_with (first | (go_at_call 34; refine (HAT.out).mono ?_; rintro e w' ⟨rfl, rfl⟩) | (go_at_call 35; refine (HSL.out _).mono ?_; rintro e w' ⟨rfl, rfl⟩))
        go_step3
        go_wp2_with (first | (go_at_call 34; refine (HAT.out).mono ?_; rintro e w' ⟨rfl, rfl⟩) | (go_at_call 35; refine (HSL.out _).mono ?_; rintro e w' ⟨rfl, rfl⟩))
        go_step3
        go_wp2_with fail
        go_loopw [8, 9, 10, 11, 12, 84] (fun kv _ _ _ _ i wi => ∃ j : Nat, j ≤ ll ∧ i = .int .i64 j ∧ InnP B wq r1 wb t R S' (-x) s list (.slice la ll lc) vl1 (.slice da S'.dn.length dc) us1 kv (list.drop j) wi) (fun _ _ _ _ _ i _ => ll - (intOf i).toNat)
        case atStart => exact ⟨0, Nat.zero_le _, rfl, HIN.out⟩
        case round =>
          obtain ⟨j, hj, rfl, S2, keep, r2, vs2, xs2, gk, hR, hdn, hwo, hls, hsl, h5, hxs, hc5, hr5, hkv, hgk⟩ := hrel
          obtain ⟨gl2, hl5, -⟩ := h5.xi s hsl
          rw [hls, hxs] at hl5
          obtain ⟨hrb, hdl, -, hkr⟩ := LAW.out.rb _ _ _ hR
          by_cases hjl : (j : Int) < (ll : Int)
          · have hjn : j < list.length := by have := HLL.out; omega
            obtain ⟨b, cap5, hv5, -, y0, -⟩ := hl5.at_ hjn
            injection hv5 with e1 e2 e3
            subst e1
            have hdr : list.drop j = list.getD j 0 :: list.drop (j + 1) := by
              rw [List.drop_eq_getElem_cons hjn]
              simp [List.getD, hjn]
            rw [hdr] at hR hkr
            obtain ⟨k, hk, hvo⟩ := LAW.out.vis _ _ _ _ hR
            rw [hk] at y0 hR hkr
            have hBi : B ≤ wr.heap.size := Nat.le_trans (Nat.le_trans (Nat.le_trans hB HC1.out.size) G2.out.size) hc5.size
            rw [hwo] at hvo
            obtain ⟨S3, st, fi, hp⟩ : ∃ S3 st fi, visitF S2 k (-x) = (S3, st, fi) := ⟨_, _, _, rfl⟩
            have hvis := visit_ h5 hBi k (-x) hvo HLW.out (by rw [← HS.out]; exact hsl)
            rw [hp, ← HS.out] at hvis
            have q_dn : S3.dn = S'.dn := by have := visitF_dn S2 k (-x); rw [hp] at this; exact this.trans hdn
            have q_wo : wrongOf S3 = -x := by have := visitF_wrong S2 k (-x) hdl; rw [hp] at this; exact this.trans hwo
            obtain ⟨q_l1, q_l2⟩ := visitF_ls hvo HLW.out (by rw [← HS.out]; exact hsl)
            rw [hp, ← HS.out] at q_l1
            rw [hp] at q_l2
            have q_st : fi = true → R S3 (if st then keep ++ [(k : Int)] else keep) (list.drop (j + 1)) := by
              have := LAW.out.step S2 keep k _ hR
              rw [hwo, hp] at this
              exact this
            have q_no : fi = false → E k false { S3 with ls := S3.ls.set s ((if st then keep ++ [(k : Int)] else keep) ++ list.drop (j + 1)) } := by
              have := LAW.out.confl S2 keep k _ hR
              have hso2 : slotOf S2 = s := by unfold slotOf; rw [hwo, ← HS.out]
              rw [hwo, hp, hso2] at this
              exact this
            have q_ls : S3.ls.getD s [] = list := q_l1.trans hls
            have q_sl : s < S3.ls.length := Nat.lt_of_lt_of_le hsl q_l2
            obtain ⟨ka, kc, rfl, -, -⟩ := hkv.form
            obtain ⟨kn, hkn⟩ : ∃ kn, kn = keep.length := ⟨_, rfl⟩
            have hkv' : LR wr (.slice ka kn kc) keep gk := by rw [hkn]; exact hkv
            rw [← hkn] at hkr
            simp only [List.length_cons] at hkr
            rw [← hkn]
            have HVI := Lib.hid hvis
            have QD := Lib.hid q_dn
            have QW := Lib.hid q_wo
            have QS := Lib.hid q_st
            have QN := Lib.hid q_no
            have QL := Lib.hid q_ls
            have QSL := Lib.hid q_sl
            have HXS := Lib.hid hxs
            have HC5 := Lib.hid hc5
            have HR5 := Lib.hid hr5
            have HKV := Lib.hid hkv'
            have HGK := Lib.hid hgk
            have HKN := Lib.hid hkn
            have h5hi := Lib.hid h5.hi
            clear hvis q_dn q_wo q_st q_no q_ls q_sl q_l1 q_l2 hxs hc5 hr5 hkv hkv' hgk hkn h5 hR hdn hwo hls hrb hdl hvo hp hdr hk hl5 e2 e3 hsl hjn
            go_wp2_with fail
            refine HVI.out.mono ?_
            rintro e w3 ⟨rfl, r3, vs3, xs3, h3, hc3, hr3, hx3⟩
            have H3 := Lib.hid h3
            have HC3 := Lib.hid hc3
            have HR3 := Lib.hid hr3
            have HX3 := Lib.hid (hx3.trans HXS.out)
            have HK3 := Lib.hid (HKV.out.chg hc3 (fun b hb e => e (HGK.out b hb).1))
            clear h3 hc3 hr3 hx3
            have HCC : Hid (Chg (fun b => r1 b ≠ 0) wq w3) := Lib.hid (HC5.out.trans HC3.out (fun i hi => by
              rcases Nat.lt_or_ge i wq.heap.size with h | h
              · exact .inl (by rw [← HR5.out i h]; exact hi)
              · exact .inr h))
            have HRR : Hid (∀ b, b < wq.heap.size → r3 b = r1 b) := Lib.hid fun b hb => (HR3.out b (Nat.lt_of_lt_of_le hb HC5.out.size)).trans (HR5.out b hb)
            have HGG : Hid (∀ b, gk = some b → r3 b = 0 ∧ wq.heap.size ≤ b) := Lib.hid fun b hb => ⟨(HR3.out b (HKV.out.lt b hb)).trans (HGK.out b hb).1, (HGK.out b hb).2⟩
            go_upto_if 96 with (fail)
            go_cut [8] (fun kv wx => CutP B wq r1 r3 wb t S3 vl1 vs3 (.slice da S'.dn.length dc) us1 xs3 (if st then keep ++ [(k : Int)] else keep) kv wx)
            case first =>
              cases st with
              | true =>
                go_wp2_with (at_builtin; refine wpList_appLR rfl (.tmp 97) (.tmp 99) 23 rfl Try.underlying23 infoI (.slice ka kn kc) keep gk rfl ?ho2 ⟨w3.heap.size, 0, none⟩ 1 1 [(k : Int)] rfl rfl ?hn2 ?c2 ?_)
                case ho2 => exact HK3.out.alloc _
                (try case hn2 => (intro i hi; obtain rfl : i = 0 := (by simp at hi; omega); exact (Blk.new w3 3 #[.int .i64 k]).cell 0))
                case c2 => rw [← HKN.out]; omega
                intro v4 w4 hp4
                have HP4 := Lib.hid hp4
                clear hp4
                go_wp2_with fail
                go_meet
                obtain ⟨gk4, hk4, hc4, hg4⟩ := HP4.out
                obtain ⟨ka4, kc4, hv4, -, -⟩ := hk4.form
                have hA : Chg (fun _ => False) w3 (w3.alloc (.cells #[.int .i64 k] 3)) := (Chg.refl _ _).alloc _
                refine ⟨gk4, ka4, kc4, hv4, (H3.out.chg hA (fun _ _ h => h)).chg hc4 (fun b hb e => hb (HGG.out b e).1), hk4, fun b hb => ?_, ((HCC.out.trans hA (fun _ h => h.elim))).trans hc4 (fun i hi => .inr (HGG.out i hi).2)⟩
                rcases hg4 with e | e
                · exact HGG.out b (by rw [← e]; exact hb)
                · rw [e] at hb
                  injection hb with hb
                  have := HCC.out.size
                  simp at hb
                  exact ⟨H3.out.hi b (by omega), by omega⟩
              | false =>
                go_wp2_with fail
                go_meet
                have hk := HK3.out
                rw [HKN.out] at hk
                exact ⟨gk, ka, kc, by rw [HKN.out]; rfl, H3.out, by rw [HKN.out]; exact hk, HGG.out, HCC.out⟩
            case rest =>
              obtain ⟨gk4, ka4, kc4, rfl, hv4, hk4, hg4, hc4⟩ := hcut
              obtain ⟨keep4, hke⟩ : ∃ keep4, keep4 = (if st then keep ++ [(k : Int)] else keep) := ⟨_, rfl⟩
              rw [← hke] at hk4 QS QN ⊢
              obtain ⟨kn4, hkn4⟩ : ∃ kn4, kn4 = keep4.length := ⟨_, rfl⟩
              rw [← hkn4] at hk4 ⊢
              have hkn4' : kn4 ≤ 2000 := by
                rw [hkn4, hke]
                split
                · rw [List.length_append, ← HKN.out]; simp; omega
                · rw [← HKN.out]; omega
              have HV4 := Lib.hid hv4
              have HK4 := Lib.hid hk4
              have HG4 := Lib.hid hg4
              have HC4 := Lib.hid hc4
              have HKN4 := Lib.hid hkn4
              clear hv4 hk4 hg4 hc4 hkn4 hke
              cases fi with
              | true =>
                go_wp2_with fail
                try rw [Exit.noGoto_exit]
                go_wp2_with fail
                go_roundw
                case rel =>
                  refine ⟨j + 1, by omega, by go_num, S3, keep4, r3, vs3, xs3, gk4, QS.out (by first | rfl | trivial), QD.out, QW.out, QL.out, QSL.out, HV4.out, HX3.out, HC4.out, HRR.out, HK4.out, HG4.out⟩
                case measure => simp [intOf]; omega
              | false =>
                have hn3 := HV4.out.adopt gk4 (7 + 2 * s) (fun b hb => ⟨(HG4.out b hb).1, Nat.le_trans (Nat.le_trans (Nat.le_trans hB HC1.out.size) G2.out.size) (HG4.out b hb).2, HK4.out.lt b hb⟩)
                obtain ⟨gs3, cap3, hv3, w0, wf, -, -⟩ := row_at1 HV4.out.ls QSL.out
                subst hv3
                have HN3 := Lib.hid hn3
                have c2z : wc.cell? ⟨wb, 2, none⟩ = some (.slice (some ⟨gs3, 0, none⟩) S3.ls.length cap3) := HV4.out.cells.c2
                have lwz := HV4.out.st.lt
                have lgz : gs3 < wc.heap.size := World.block_lt_of_cell? wc _ w0
                obtain ⟨q3, hq3⟩ : ∃ q3, q3 = S3.ls.length := ⟨_, rfl⟩
                rw [← hq3] at c2z
                have sz1 : (s : Int) < (q3 : Int) := by have := QSL.out; omega
                have sz0 : (0 : Int) ≤ (s : Int) := by omega
                have HQ3 := Lib.hid hq3
                have j1 : (j : Int) + 1 ≤ (ll : Int) := by omega
                have j0 : (0 : Int) ≤ (j : Int) + 1 := by omega
                have hw1 : IntKind.i64.wrap ((j : Int) + 1) = (j : Int) + 1 := IntWalk.i64_in _ (by omega)
                have hw2 : ((j : Int) + 1).toNat = j + 1 := by omega
                have hsrc : Hid (∀ i, i < (list.drop (j + 1)).length → wc.cell? ⟨b, j + 1 + i, none⟩ = some (.int .i64 ((list.drop (j + 1)).getD i 0))) := Lib.hid fun i hi => by
                  obtain ⟨g9, q9, -⟩ := HV4.out.xi s QSL.out
                  rw [QL.out, HX3.out] at q9
                  have hi' : j + 1 + i < list.length := by simp at hi; omega
                  obtain ⟨b9, cap9, hv9, -, y9, -⟩ := q9.at_ hi'
                  injection hv9 with e1 e2 e3
                  injection e1 with e1
                  injection e1 with e1
                  subst e1
                  rw [y9]
                  simp [List.getD]
                have hdl : (list.drop (j + 1)).length = ll - (j + 1) := by rw [List.length_drop, ← HLL.out]
                have HDL := Lib.hid hdl
                obtain ⟨ad, hadd, hadi⟩ : ∃ ad : Addr, (if lc = j + 1 then (some ⟨b, 0, none⟩ : Option Addr) else some ⟨b, j + 1, none⟩) = some ad ∧ ∀ i, i < (list.drop (j + 1)).length → ad.add i = ⟨b, j + 1 + i, none⟩ := by
                  by_cases e : lc = j + 1
                  · exact ⟨⟨b, 0, none⟩, if_pos e, fun i hi => by rw [hdl] at hi; omega⟩
                  · exact ⟨⟨b, j + 1, none⟩, if_neg e, fun i hi => addr_add _ _ _⟩
                have HAD := Lib.hid hadi
                have hQN : Hid (E k false { S3 with ls := S3.ls.set s (keep4 ++ list.drop (j + 1)) }) := Lib.hid (QN.out (by first | rfl | trivial))
                clear hn3 hq3 hdl hadi
                go_wp2_with fail
                go_region_law (first
                  | (refine step_appLR rfl (.tmp 107) (.tmp 111) _ rfl Try.underlying23 infoI (.slice ka4 kn4 kc4) keep4 gk4 ?hs3 ?ho3 ad (ll - (j + 1)) (lc - (j + 1)) (list.drop (j + 1)) ?hx3 ?hl3 ?hn3 ?c3 ?_
                     case hs3 => ((try simp only [List.getElem_toArray, List.getElem_cons_succ, List.getElem_cons_zero]); (repeat rw [eval_put_ne _ _ _ _ (by decide)]); first | (with_reducible refine eval_put_eq _ _ _ ?_; simp [put_size]; done) | rfl)
                     case hx3 => ((try simp only [List.getElem_toArray, List.getElem_cons_succ, List.getElem_cons_zero]); (repeat rw [eval_put_ne _ _ _ _ (by decide)]); first | (with_reducible refine eval_put_eq _ _ _ ?_; simp [put_size]; done) | rfl)
                     case ho3 => exact HK4.out.drew
                     case hl3 => exact HDL.out
                     case hn3 => intro i hi; rw [HAD.out i hi]; exact hsrc.out i hi
                     case c3 => rw [← HKN4.out]; omega
                     intro v5 w5 hp5
                     obtain ⟨ao, no, co, rfl⟩ : ∃ ao no co, v5 = .slice ao no co := by
                       obtain ⟨_, q, _⟩ := hp5
                       obtain ⟨ao, co, q, -⟩ := q.form
                       exact ⟨ao, _, co, q⟩
                     obtain ⟨kB, rB, cB⟩ := WV.putCell (HN3.out.chg (T := fun _ => False) ((Chg.refl _ wc).drew) (fun _ _ h => h)) s QSL.out _ gk4 (fun b hb => by unfold owner; rw [if_pos hb]) hp5
                     rw [← HQ3.out] at cB
                     have HP5 := Lib.hid hp5
                     clear hp5))
                all_goals
                  clear kB rB cB
                  have h6 := HN3.out.chg (T := fun _ => False) ((Chg.refl _ wc).drew) (fun _ _ h => h)
                  obtain ⟨r6, q1, q2, q3⟩ := WV.putAt h6 (Nat.le_trans (Nat.le_trans (Nat.le_trans hB HC1.out.size) G2.out.size) HC4.out.size) s QSL.out _ gk4 (fun b hb => by unfold owner; rw [if_pos hb]) HP5.out
                  have HF : Hid (WPost B w r wb t { S3 with ls := S3.ls.set s (keep4 ++ list.drop (j + 1)) } (w5.setCell ⟨gs3, s, none⟩ (.slice ao no co))) := Lib.hid (WPost.trans HC1.out HR1.out ⟨r6, ⟨_, _, _, _, _, q1⟩, G2.out.trans (fin_chg HC4.out (((Chg.refl _ wc).drew).trans q2 (fun i hi => .inl hi)) (fun b hb => (HG4.out b hb).2) HRR.out) (fun i hi => .inl hi), fun b hb => (q3 b (Nat.lt_of_lt_of_le hb (Nat.le_trans G2.out.size HC4.out.size))).trans (fin_old (fun b hb => (HG4.out b hb).2) HRR.out b (Nat.lt_of_lt_of_le hb G2.out.size))⟩)
                  clear h6 q1 q2 q3
                  go_wp2_with fail
                  try rw [Exit.noGoto_ret]
                  go_wp2_with fail
                  go_ret2
                  exact ⟨k, false, _, rfl, hQN.out, HF.out⟩
          · -- END
            have hdr : list.drop j = [] := List.drop_eq_nil_of_le (by have := HLL.out; omega)
            have hfin := hR
            rw [hdr] at hfin
            have hfin := LAW.out.finish S2 keep hfin
            have hso2 : slotOf S2 = s := by unfold slotOf; rw [hwo, ← HS.out]
            rw [hso2] at hfin
            have hwl := (LAW.out.qb _ hfin).wl
            obtain ⟨gs2, cap2, hv2, w0, wf, -, -⟩ := row_at1 h5.ls hsl
            subst hv2
            have hB2 : B ≤ wr.heap.size := Nat.le_trans (Nat.le_trans (Nat.le_trans hB HC1.out.size) G2.out.size) hc5.size
            have hadp := h5.adopt gk (7 + 2 * s) (fun b hb => ⟨(hgk b hb).1, Nat.le_trans (Nat.le_trans (Nat.le_trans hB HC1.out.size) G2.out.size) (hgk b hb).2, hkv.lt b hb⟩)
            obtain ⟨r6, q1, q2, q3⟩ := WV.putAt hadp hB2 s hsl keep gk (fun b hb => by unfold owner; rw [if_pos hb]) ⟨gk, hkv, Chg.refl _ _, .inl rfl⟩
            obtain ⟨S4, hS4⟩ : ∃ S4 : WS, S4 = { S2 with ls := S2.ls.set s keep } := ⟨_, rfl⟩
            rw [← hS4] at q1 hfin hwl
            have hdn4 : S4.dn = S'.dn := by rw [hS4]; exact hdn
            have c2 : wr.cell? ⟨wb, 2, none⟩ = some (.slice (some ⟨gs2, 0, none⟩) S2.ls.length cap2) := h5.cells.c2
            have lgz : gs2 < wr.heap.size := World.block_lt_of_cell? wr _ w0
            obtain ⟨q2l, hq2l⟩ : ∃ q2l, q2l = S2.ls.length := ⟨_, rfl⟩
            rw [← hq2l] at c2 q1
            have sz1 : (s : Int) < (q2l : Int) := by omega
            have sz0 : (0 : Int) ≤ (s : Int) := by omega
            obtain ⟨ka, kc, hkvf, -, -⟩ := hkv.form
            obtain ⟨kn, hkn⟩ : ∃ kn, kn = keep.length := ⟨_, rfl⟩
            rw [← hkn] at hkvf
            subst hkvf
            have hCC : Chg (fun b => r1 b ≠ 0) wq (wr.setCell ⟨gs2, s, none⟩ (.slice ka kn kc)) := fin_chg hc5 q2 (fun b hb => (hgk b hb).2) hr5
            have hRR : ∀ b, b < wq.heap.size → r6 b = r1 b := fun b hb => (q3 b (Nat.lt_of_lt_of_le hb hc5.size)).trans (fin_old (fun b hb => (hgk b hb).2) hr5 b hb)
            have HQ1 := Lib.hid q1
            have HCC := Lib.hid hCC
            have HRR := Lib.hid hRR
            have HFI := Lib.hid hfin
            have HWL := Lib.hid hwl
            have HD4 := Lib.hid hdn4
            clear q1 q2 q3 hCC hRR hfin hwl hdn4 hdr hso2 hR hdn hwo hls hxs hc5 hr5 hkv hgk h5 hl5 hrb hdl hkr hadp hq2l hkn hS4 hsl
            go_wp2_with fail
            generalize wr.setCell ⟨gs2, s, none⟩ (.slice ka kn kc) = wz at *
            obtain ⟨gd7, hd7, hgd7⟩ := HQ1.out.dn
            rw [HD4.out, ← HN.out] at hd7
            obtain ⟨y, hy⟩ : ∃ y, y = S4.t.wh.getD n 0 := ⟨_, rfl⟩
            have c0 := HQ1.out.cells.c0
            have c3 : wz.cell? ⟨wb, 3, none⟩ = some (.slice da n dc) := by rw [HN.out]; exact HQ1.out.cells.c3
            have f3 := HQ1.out.st.frozen 3
            have lw := HQ1.out.st.lt
            have HWN : Hid (∀ W, Below wz.heap.size wz W → Calls Try.prog 36 #[.pointer (some ⟨t, 0, none⟩), .int .i64 n] W fun e w' => e = .returned (.int .i64 y) ∧ W = w') := Lib.hid fun W hW => by
              rw [hy]; exact when1 (HQ1.out.chg (T := fun _ => False) (Chg.of_below hW) (fun _ _ h => h)) HWL.out n
            have HD7 := Lib.hid hd7
            have HGD7 := Lib.hid hgd7
            have HY := Lib.hid hy
            clear hd7 hgd7 hy c2 lgz w0 wf
            go_region_law (first
              | (go_simp; go_at_call 36; refine (HWN.out _ (Below.refl _ _).drew).mono ?_; rintro e w' ⟨rfl, rfl⟩)
              | (refine step_appLR rfl (.tmp 127) (.tmp 134) _ rfl Try.underlying23 infoI (.slice da n dc) S'.dn gd7 ?hs7 ?ho7 ⟨wz.heap.size, 0, none⟩ 1 1 [y] ?hx7 rfl ?hn7 ?c7 ?_
                 case hs7 => ((try simp only [List.getElem_toArray, List.getElem_cons_succ, List.getElem_cons_zero]); (repeat rw [eval_put_ne _ _ _ _ (by decide)]); first | (with_reducible refine eval_put_eq _ _ _ ?_; simp [put_size]; done) | rfl)
                 case hx7 => ((try simp only [List.getElem_toArray, List.getElem_cons_succ, List.getElem_cons_zero]); (repeat rw [eval_put_ne _ _ _ _ (by decide)]); first | (with_reducible refine eval_put_eq _ _ _ ?_; simp [put_size]; done) | rfl)
                 case ho7 => have h0 := HD7.out.drew.alloc (.cells #[.int .i64 y] 3); exact h0
                 case hn7 => intro j hj; obtain rfl : j = 0 := (by simp at hj; omega); exact (Blk.new wz.drew 3 #[.int .i64 y]).cell 0
                 case c7 => rw [← HN.out]; omega
                 intro v3 wB hpF
                 obtain ⟨ao, no, co, rfl⟩ : ∃ ao no co, v3 = .slice ao no co := by
                   obtain ⟨_, q, _⟩ := hpF
                   obtain ⟨ao, co, q, -⟩ := q.form
                   exact ⟨ao, _, co, q⟩
                 have HP := Lib.hid hpF
                 obtain ⟨kB, rB, cB, fB⟩ := WV.dnCell (HQ1.out.chg (T := fun _ => False) ((Chg.refl _ wz).drew.alloc (.cells #[.int .i64 y] 3)) (fun _ _ h => h)) HGD7.out hpF
                 clear hpF))
            all_goals
              clear kB rB cB fB
              go_wp2_with fail
              have h5 := HQ1.out.chg (T := fun _ => False) ((Chg.refl _ wz).drew.alloc (.cells #[.int .i64 y] 3)) (fun _ _ h => h)
              obtain ⟨r7, p1, p2, p3⟩ := WV.pushDn h5 (Nat.le_trans (Nat.le_trans (Nat.le_trans hB HC1.out.size) G2.out.size) (Nat.le_trans HCC.out.size (by simp))) HGD7.out y (by rw [HY.out, HN.out, HD4.out]) (by rw [HD4.out]; exact HP.out)
              have HF : Hid (WPost B w r wb t (pushDn S4) (wB.setCell ⟨wb, 3, none⟩ (.slice ao no co))) := Lib.hid (WPost.trans HC1.out HR1.out ⟨r7, ⟨_, _, _, _, _, p1⟩, G2.out.trans (HCC.out.trans (((Chg.refl _ wz).drew.alloc (.cells #[.int .i64 y] 3)).trans p2 (fun i hi => .inl hi)) (fun i hi => by
                rcases Nat.lt_or_ge i wq.heap.size with h | h
                · exact .inl (by rw [← HRR.out i h]; exact hi)
                · exact .inr h)) (fun i hi => .inl hi), fun b hb => (p3 b (by have := G2.out.size; have := HCC.out.size; simp; omega)).trans (HRR.out b (by have := G2.out.size; omega))⟩)
              clear h5 p1 p2 p3
              first | rw [Exit.noGoto_exit] | rw [Exit.noGoto_normal]
              go_wp2_with fail
              go_roundg (100000 - (n + 1))
              case measure => have := HN.out; omega
              case rel => exact ⟨_, HFI.out, by unfold pushDn; simp only [List.length_append, List.length_singleton]; have := HN.out; have := HD4.out; rw [this]; omega, HF.out⟩
    · have hlt' : ¬ (n : Int) < (m : Int) := by omega
      have HE : Hid (E (-1) true S') := Lib.hid (LAW.out.done S' HQ.out (by have := HN.out; have := HM.out; omega))
      go_wp2_with fail
      go_quiet ((go_at_call 33; exact Calls.quiet_of_same (HLQ.out _)))
      go_wp2_with fail
      go_ret2
      exact ⟨-1, true, S', rfl, HE.out, WPost.trans HC1.out HR1.out (WPost.below ⟨_, _, _, _, _, H1.out⟩ (below_drewN (Below.refl _ _) _))⟩
end Go.Proofs.Ytghlgegfokjgbaa
