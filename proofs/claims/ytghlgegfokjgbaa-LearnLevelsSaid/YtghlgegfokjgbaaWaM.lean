/-
  Package watch: back, and what Run adds to what was gone through.
-/
import Derived.Test.YtghlgegfokjgbaaWaL
import Derived.Deep.LoopGhost
namespace Go.Proofs.Ytghlgegfokjgbaa
open Go.ChangeShapes Go.WideShapes Go.ChangeAt Go.RowKit
set_option linter.unusedVariables false
set_option linter.unusedSimpArgs false
/-- What was gone through, as far as the trail has not turned since: of a trail that was added to, or cut. -/
def backN (S : WS) : Nat := min S.dn.length S.t.l.length
structure BackOk (S : WS) : Prop where
  wl : S.t.wh.length = S.t.l.length
  eq : ∀ j, j < S.dn.length → j < S.t.l.length → S.dn.getD j 0 = S.t.wh.getD j 0
  pos : ∀ j, j < S.dn.length → S.dn.getD j 0 ≠ 0
  sm : S.dn.length ≤ 100000
def backF (S : WS) : WS := { S with dn := S.dn.take (backN S) }
theorem when_ {B : Nat} {w : World} {r : Nat → Nat} {wb t : Nat} {S : WS} {vl vs vd : Value} {us xs : List Value} (h : WV B w r wb t S vl vs vd us xs) (hw : S.t.wh.length = S.t.l.length) (n j : Nat) :
    Calls Try.prog 36 #[.pointer (some ⟨t, 0, none⟩), .int .i64 j] (w.drewN n) fun e w' => e = .returned (.int .i64 (S.t.wh.getD j 0)) ∧ w' = w.drewN n := by
  obtain ⟨fp, hT, -⟩ := h.tr
  have hT := hT.chg (S := fun _ => False) ((Chg.refl _ w).drewN n) (fun _ _ h => h)
  rcases Nat.lt_or_ge j S.t.l.length with hj | hj
  · exact (trail_When hT j hj hw).mono fun e w' ⟨h1, h2⟩ => ⟨h1, h2.symm⟩
  · have e : S.t.wh.getD j 0 = 0 := by simp [List.getD, List.getElem?_eq_none (by omega : S.t.wh.length ≤ j)]
    rw [e]
    exact (trail_When_off hT j hj).mono fun e w' ⟨h1, h2⟩ => ⟨h1, h2.symm⟩
set_option maxHeartbeats 2000000 in
set_option maxRecDepth 100000 in
theorem back_ {B : Nat} {w : World} {r : Nat → Nat} {wb t : Nat} {S : WS} (h : WAt B w r wb t S) (hB : B ≤ w.heap.size) (hok : BackOk S) :
    Calls Try.prog 32 #[.pointer (some ⟨wb, 0, none⟩)] w fun e w' => e = .returned (.tuple #[]) ∧ WPost B w r wb t (backF S) w' := by
  obtain ⟨vl, vs, vd, us, xs, h⟩ := h
  have c3 := h.cells.c3
  obtain ⟨gd, hd, hgd⟩ := h.dn
  obtain ⟨da, dc, hdv, -, -⟩ := hd.form
  obtain ⟨n, hn⟩ : ∃ n, n = S.dn.length := ⟨_, rfl⟩
  rw [hdv, ← hn] at c3
  have hn9 : n ≤ 100000 := by rw [hn]; exact hok.sm
  have H := Lib.hid h
  have HOK := Lib.hid hok
  have HN := Lib.hid hn
  have HDV := Lib.hid hdv
  clear h hok hn hdv hd hgd
  go_enter Try.func32, Try.ntmps32
  go_wp2
  go_loopw [2] (fun last wr => ∃ k : Nat, k ≤ n ∧ last = .int .i64 ((k : Int) - 1) ∧ (∀ j, k ≤ j → j < n → S.t.l.length ≤ j) ∧ ∃ vd', WV B wr r wb t { S with dn := S.dn.take k } vl vs vd' us xs ∧ Chg (fun b => r b ≠ 0) w wr) (fun last _ => (intOf last + 1).toNat)
  case atStart => exact ⟨n, Nat.le_refl _, rfl, fun j h1 h2 => absurd h2 (by omega), vd, by rw [HN.out, List.take_length]; exact H.out, Chg.refl _ _⟩
  case round =>
    obtain ⟨k, hk, rfl, hb, vd', h5, hc5⟩ := hrel
    have c0 := h5.cells.c0
    have c3 := h5.cells.c3
    obtain ⟨gd, hd, hgd⟩ := h5.dn
    have hd : LR wr vd' (S.dn.take k) gd := hd
    have htl : (S.dn.take k).length = k := by rw [List.length_take]; have := HN.out; omega
    by_cases hk0 : k = 0
    · subst hk0
      have hm : backN S = 0 := by
        unfold backN
        rcases Nat.eq_zero_or_pos n with h0 | h0
        · have := HN.out; omega
        · have := hb 0 (Nat.le_refl _) h0; omega
      have HF : Hid (WPost B w r wb t (backF S) wr) := Lib.hid ⟨r, ⟨_, _, _, _, _, by unfold backF; rw [hm]; exact h5⟩, hc5, fun _ _ => rfl⟩
      have HF2 : Hid (∀ n, WPost B w r wb t (backF S) (wr.drewN n)) := Lib.hid fun n => WPost.trans HF.out.choose_spec.2.1 HF.out.choose_spec.2.2 (WPost.below HF.out.choose_spec.1 (below_drewN (Below.refl _ _) _))
      have hz : (((0 : Nat) : Int) - 1) = -1 := by omega
      rw [hz]
      clear hb h5 hc5 hd hgd htl hm hz
      go_wp2
      go_quiet (fail)
      go_wp2
      go_returns
      exact ⟨rfl, HF2.out _⟩
    · obtain ⟨i, rfl⟩ : ∃ i, k = i + 1 := ⟨k - 1, by omega⟩
      have hi1 : (((i + 1 : Nat) : Int) - 1) = (i : Int) := by omega
      rw [hi1]
      obtain ⟨b, cap, hv, hg, x0, f0⟩ := hd.at_ (j := i) (by rw [htl]; omega)
      rw [htl] at hv
      subst hv
      have hcap : i + 1 ≤ cap := by
        obtain ⟨a2, cap2, hv2, hle, -⟩ := hd.form
        injection hv2 with e1 e2 e3
        rw [htl, ← e3] at hle
        exact hle
      obtain ⟨x, hx⟩ : ∃ x, x = (S.dn.take (i + 1)).getD i 0 := ⟨_, rfl⟩
      rw [← hx] at x0
      have hxe : x = S.dn.getD i 0 := by rw [hx]; simp [List.getD, List.getElem?_take_of_lt]
      obtain ⟨y, hy⟩ : ∃ y, y = S.t.wh.getD i 0 := ⟨_, rfl⟩
      have hwn : ∀ n : Nat, Calls Try.prog 36 #[.pointer (some ⟨t, 0, none⟩), .int .i64 i] (wr.drewN n) fun e w' => e = .returned (.int .i64 y) ∧ w' = wr.drewN n := fun n => by
        rw [hy]; exact when_ h5 HOK.out.wl n i
      have HWN := Lib.hid hwn
      have i0 : (0 : Int) ≤ (i : Int) := by omega
      have i1 : (i : Int) < ((i + 1 : Nat) : Int) := by omega
      by_cases hxy : y = x
      · have hb1 : (y != x) = false := by rw [bne_eq_false_iff_eq]; exact hxy
        have H5 := Lib.hid h5
        have HY := Lib.hid hy
        have HXE := Lib.hid hxe
        have HXY := Lib.hid hxy
        have HBB := Lib.hid hb
        have HC5 := Lib.hid hc5
        clear h5 hy hxe hxy hb hc5 hwn hx hd hgd htl hg hk0 hi1
        go_wp2
        go_quiet ((go_at_call 36; exact Calls.quiet_of_same (HWN.out _)))
        go_wp2
        go_returns
        refine ⟨rfl, ?_⟩
        have hil : i < S.t.l.length := by
          rcases Nat.lt_or_ge i S.t.l.length with h | h
          · exact h
          · have e : S.t.wh.getD i 0 = 0 := by simp [List.getD, List.getElem?_eq_none (by rw [HOK.out.wl]; exact h : S.t.wh.length ≤ i)]
            have := HOK.out.pos i (by have := HN.out; omega)
            rw [← HXE.out, ← HXY.out, HY.out] at this
            exact absurd e this
        have hm : backN S = i + 1 := by
          unfold backN
          rcases Nat.lt_or_ge (i + 1) n with h | h
          · have := HBB.out (i + 1) (Nat.le_refl _) h
            have := HN.out
            omega
          · have := HN.out
            omega
        have h6 := H5.out.chg (T := fun _ => False) ((Chg.refl _ wr).drewN nq) (fun _ _ h => h)
        rw [← hm] at h6
        exact ⟨r, ⟨_, _, _, _, _, h6⟩, HC5.out.drewN nq, fun _ _ => rfl⟩
      · have hb1 : (y != x) = true := by rw [bne_iff_ne]; exact hxy
        have hil : S.t.l.length ≤ i := by
          rcases Nat.lt_or_ge i S.t.l.length with h | h
          · exact absurd (by rw [hy, hxe]; exact (HOK.out.eq i (by have := HN.out; omega) h).symm) hxy
          · exact h
        have f3 := h5.st.frozen 3
        have H5 := Lib.hid h5
        have HD := Lib.hid hd
        have HGD := Lib.hid hgd
        have HTL := Lib.hid htl
        have HBB : Hid (∀ j, i ≤ j → j < n → S.t.l.length ≤ j) := Lib.hid fun j h1 h2 => by omega
        have HC5 := Lib.hid hc5
        clear h5 hy hxe hxy hb hc5 hwn hx hd hgd htl hg hk0 hi1 hil
        go_wp2
        go_quiet ((go_at_call 36; exact Calls.quiet_of_same (HWN.out _)))
        have h6 := H5.out.chg (T := fun _ => False) ((Chg.refl _ wr).drewN nq) (fun _ _ h => h)
        have g6 : Chg (fun b => r b ≠ 0) w (wr.drewN nq) := HC5.out.drewN nq
        have hd6 := HD.out.chg (S := fun _ => False) ((Chg.refl _ wr).drewN nq) (fun _ _ h => h)
        generalize wr.drewN nq = wz at *
        have c3z := h6.cells.c3
        have f3z := h6.st.frozen 3
        have c3z : wz.cell? ⟨wb, 3, none⟩ = some (.slice (some ⟨b, 0, none⟩) (i + 1) cap) := c3z
        have lz := h6.st.lt
        have H6 := Lib.hid h6
        have G6 := Lib.hid g6
        have HD6 := Lib.hid hd6
        clear h6 g6 hd6 c3 f3 c0 x0 f0
        go_wp2
        go_roundw
        case rel =>
          have hd7 := HD6.out
          have e1 : i + 1 = (S.dn.take (i + 1)).length := HTL.out.symm
          have hd8 : LR wz (.slice (some ⟨b, 0, none⟩) (S.dn.take (i + 1)).length cap) (S.dn.take (i + 1)) gd := by rw [← e1]; exact hd7
          have h9 := hd8.take i (by omega)
          rw [List.take_take, Nat.min_eq_left (by omega)] at h9
          have h10 := WV.setDn H6.out.x5 H6.out.st.lt (Nat.le_trans hB G6.out.size) (.slice (some ⟨b, 0, none⟩) i cap) (S.dn.take i) gd h9 HGD.out
          exact ⟨i, by omega, rfl, HBB.out, _, h10, G6.out.setCell (p := ⟨wb, 3, none⟩) (.inl (by show r wb ≠ 0; rw [H6.out.rst]; omega)) _⟩
        case measure => simp [intOf]
end Go.Proofs.Ytghlgegfokjgbaa
/-
  Package watch: what a Run's rounds keep, as a plain law; the step that says what was gone through.
-/
namespace Go.Proofs.Ytghlgegfokjgbaa
open Go.ChangeShapes Go.WideShapes Go.ChangeAt Go.RowKit
set_option linter.unusedVariables false
set_option linter.unusedSimpArgs false
def wrongOf (S : WS) : Int := -(S.t.l.getD S.dn.length 0)
def slotOf (S : WS) : Nat := slotN (wrongOf S)
def pushDn (S : WS) : WS := { S with dn := S.dn ++ [S.t.wh.getD S.dn.length 0] }
/-- Numbers that a Run wants. -/
structure RunB (S : WS) : Prop where
  sg : Signs S.t
  tb : TB S.t
  wl : S.t.wh.length = S.t.l.length
  dl : S.dn.length ≤ S.t.l.length
  lt : Lits3 S.t.l
  lb : LB 1000 S.ls
/-- A plain law of Run: Q between two literals, R between two clauses (those that keep watching, those to come), E at the end. -/
structure RunLaw (Q : WS → Prop) (R : WS → List Int → List Int → Prop) (E : Int → Bool → WS → Prop) : Prop where
  qb : ∀ S, Q S → RunB S
  skip : ∀ S, Q S → S.dn.length < S.t.l.length → S.ls.length ≤ slotOf S → Q (pushDn S)
  start : ∀ S, Q S → S.dn.length < S.t.l.length → slotOf S < S.ls.length → R S [] (S.ls.getD (slotOf S) [])
  rb : ∀ S keep rest, R S keep rest → RunB S ∧ S.dn.length < S.t.l.length ∧ slotOf S < S.ls.length ∧ keep.length + rest.length ≤ 1000
  vis : ∀ S keep id rest, R S keep (id :: rest) → ∃ k : Nat, id = (k : Int) ∧ VisOk S k (wrongOf S)
  step : ∀ S keep (k : Nat) rest, R S keep ((k : Int) :: rest) → (visitF S k (wrongOf S)).2.2 = true → R (visitF S k (wrongOf S)).1 (if (visitF S k (wrongOf S)).2.1 then keep ++ [(k : Int)] else keep) rest
  confl : ∀ S keep (k : Nat) rest, R S keep ((k : Int) :: rest) → (visitF S k (wrongOf S)).2.2 = false → E k false { (visitF S k (wrongOf S)).1 with ls := (visitF S k (wrongOf S)).1.ls.set (slotOf S) ((if (visitF S k (wrongOf S)).2.1 then keep ++ [(k : Int)] else keep) ++ rest) }
  finish : ∀ S keep, R S keep [] → Q (pushDn { S with ls := S.ls.set (slotOf S) keep })
  done : ∀ S, Q S → S.t.l.length ≤ S.dn.length → E (-1) true S
theorem visitF_dn (S : WS) (k : Nat) (wrong : Int) : (visitF S k wrong).1.dn = S.dn := by
  unfold visitF
  split
  · rfl
  · split
    · rfl
    · split
      · rfl
      · split <;> rfl
theorem impT_l (t : TS) (l r : Int) : ∃ m, (impT t l r).l = t.l ++ m := by
  unfold impT
  split
  · exact ⟨[l], rfl⟩
  · exact ⟨[], by simp⟩
theorem visitF_l (S : WS) (k : Nat) (wrong : Int) : ∃ m, (visitF S k wrong).1.t.l = S.t.l ++ m := by
  unfold visitF
  split
  · exact ⟨[], by simp⟩
  · split
    · exact ⟨[], by simp⟩
    · split
      · exact ⟨[], by simp⟩
      · split
        · exact ⟨[], by simp⟩
        · exact impT_l _ _ _
theorem visitF_wrong (S : WS) (k : Nat) (wrong : Int) (h : S.dn.length < S.t.l.length) : wrongOf (visitF S k wrong).1 = wrongOf S := by
  obtain ⟨m, hm⟩ := visitF_l S k wrong
  unfold wrongOf
  rw [visitF_dn, hm]
  congr 1
  simp only [List.getD]
  rw [List.getElem?_append_left h]
theorem putL_ne (ls : List (List Int)) (s s' : Nat) (id : Int) (h : s ≠ s') (hs : s' < ls.length) : (putL ls s id).getD s' [] = ls.getD s' [] := by
  unfold putL
  rw [getD_set_ne _ _ _ _ _ h]
  unfold padL
  simp only [List.getD]
  rw [List.getElem?_append_left hs]
theorem fk_spec {t : TS} {c : List Int} {k : Nat} (h : fk t c = some k) : 2 ≤ k ∧ k < c.length ∧ 0 ≤ t.value (c.getD k 0) := by
  unfold fk at h
  have h1 := List.find?_some h
  have h2 := List.mem_of_find?_eq_some h
  rw [List.mem_range'_1] at h2
  have h1 : decide (0 ≤ t.value (c.getD k 0)) = true := h1
  exact ⟨h2.1, by omega, of_decide_eq_true h1⟩
theorem visC_len (c : List Int) (w : Int) : (visC c w).length = c.length := by unfold visC; split <;> simp [sw_len]
theorem visitF_ls {S : WS} {k : Nat} {wrong : Int} (h : VisOk S k wrong) (hw : lit3 wrong) (hs : slotN wrong < S.ls.length) : (visitF S k wrong).1.ls.getD (slotN wrong) [] = S.ls.getD (slotN wrong) [] ∧ S.ls.length ≤ (visitF S k wrong).1.ls.length := by
  unfold visitF
  split
  · exact ⟨rfl, Nat.le_refl _⟩
  · split
    · exact ⟨rfl, Nat.le_refl _⟩
    · split
      · rename_i j hj
        obtain ⟨j1, j2, j3⟩ := fk_spec hj
        rw [visC_len] at j2
        refine ⟨putL_ne _ _ _ _ (fun e => ?_) hs, ?_⟩
        · have hl : lit3 ((visC (S.cl.getD k []) wrong).getD j 0) := by
            unfold visC
            split
            · exact (h.lits.sw 0 1).at_ j
            · exact h.lits.at_ j
          have := slotN_inj hl hw e
          rcases h.ne j j2 with h1 | h1
          · exact h1 this
          · omega
        · show _ ≤ (putL _ _ _).length
          unfold putL
          rw [List.length_set, padL_len]
          omega
      · split
        · exact ⟨rfl, Nat.le_refl _⟩
        · exact ⟨rfl, Nat.le_refl _⟩
set_option maxRecDepth 100000 in
theorem Run_broken {B : Nat} {w : World} {r : Nat → Nat} {wb t : Nat} {S : WS} (h : WAt B w r wb t S) (hb : 0 ≤ S.bk) :
    Calls Try.prog 14 #[.pointer (some ⟨wb, 0, none⟩)] w fun e w' => e = .returned (.tuple #[.int .i64 S.bk, .bool false]) ∧ w = w' := by
  obtain ⟨vl, vs, vd, us, xs, h⟩ := h
  have c4 := h.cells.c4
  clear h
  go_enter Try.func14, Try.ntmps14
  go_wp2
  go_ret2
  exact ⟨rfl, rfl⟩
set_option maxRecDepth 100000 in
theorem Run_nil (w : World) : Calls Try.prog 14 #[.pointer none] w fun e w' => e = .returned (.tuple #[.int .i64 (-1), .bool false]) ∧ w = w' := by
  go_enter Try.func14, Try.ntmps14
  go_wp2
  go_ret2
  exact ⟨rfl, rfl⟩
end Go.Proofs.Ytghlgegfokjgbaa
