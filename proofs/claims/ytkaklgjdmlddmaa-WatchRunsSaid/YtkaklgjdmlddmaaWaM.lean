/-
  Package watch: back, and what Run adds to what was gone through.
-/
import Derived.Test.YtkaklgjdmlddmaaWaL
namespace Go.Proofs.Ytkaklgjdmlddmaa
open Go.ChangeShapes Go.WideShapes Go.ChangeAt Go.RowKit
set_option linter.unusedVariables false
set_option linter.unusedSimpArgs false
/-- What was gone through, as far as the trail has not turned since: of a trail that was added to, or cut. -/
def backN (S : WS) : Nat := min S.dn.length S.t.l.length
structure BackOk (S : WS) : Prop where
  wl : S.t.wh.length = S.t.l.length
  eq : ∀ j, j < S.dn.length → j < S.t.l.length → S.dn.getD j 0 = S.t.wh.getD j 0
  pos : ∀ j, j < S.dn.length → S.dn.getD j 0 ≠ 0
  sm : S.dn.length ≤ 100000
def backF (S : WS) : WS := { S with dn := S.dn.take (backN S) }
theorem when_ {B : Nat} {w : World} {r : Nat → Nat} {wb t : Nat} {S : WS} {vl vs vd : Value} {us xs : List Value} (h : WV B w r wb t S vl vs vd us xs) (hw : S.t.wh.length = S.t.l.length) (n j : Nat) :
    Calls Try.prog 33 #[.pointer (some ⟨t, 0, none⟩), .int .i64 j] (w.drewN n) fun e w' => e = .returned (.int .i64 (S.t.wh.getD j 0)) ∧ w' = w.drewN n := by
  obtain ⟨fp, hT, -⟩ := h.tr
  have hT := hT.chg (S := fun _ => False) ((Chg.refl _ w).drewN n) (fun _ _ h => h)
  rcases Nat.lt_or_ge j S.t.l.length with hj | hj
  · exact (trail_When hT j hj hw).mono fun e w' ⟨h1, h2⟩ => ⟨h1, h2.symm⟩
  · have e : S.t.wh.getD j 0 = 0 := by simp [List.getD, List.getElem?_eq_none (by omega : S.t.wh.length ≤ j)]
    rw [e]
    exact (trail_When_off hT j hj).mono fun e w' ⟨h1, h2⟩ => ⟨h1, h2.symm⟩
set_option maxHeartbeats 2000000 in
set_option maxRecDepth 100000 in
theorem back_ {B : Nat} {w : World} {r : Nat → Nat} {wb t : Nat} {S : WS} (h : WAt B w r wb t S) (hB : B ≤ w.heap.size) (hok : BackOk S) :
    Calls Try.prog 29 #[.pointer (some ⟨wb, 0, none⟩)] w fun e w' => e = .returned (.tuple #[]) ∧ WPost B w r wb t (backF S) w' := by
  obtain ⟨vl, vs, vd, us, xs, h⟩ := h
  have c3 := h.cells.c3
  obtain ⟨gd, hd, hgd⟩ := h.dn
  obtain ⟨da, dc, hdv, -, -⟩ := hd.form
  obtain ⟨n, hn⟩ : ∃ n, n = S.dn.length := ⟨_, rfl⟩
  rw [hdv, ← hn] at c3
  have hn9 : n ≤ 100000 := by rw [hn]; exact hok.sm
  have H := Lib.hid h
  have HOK := Lib.hid hok
  have HN := Lib.hid hn
  have HDV := Lib.hid hdv
  clear h hok hn hdv hd hgd
  go_enter Try.func29, Try.ntmps29
  go_wp2
  go_loopw [2] (fun last wr => ∃ k : Nat, k ≤ n ∧ last = .int .i64 ((k : Int) - 1) ∧ (∀ j, k ≤ j → j < n → S.t.l.length ≤ j) ∧ ∃ vd', WV B wr r wb t { S with dn := S.dn.take k } vl vs vd' us xs ∧ Chg (fun b => r b ≠ 0) w wr) (fun last _ => (intOf last + 1).toNat)
  case atStart => exact ⟨n, Nat.le_refl _, rfl, fun j h1 h2 => absurd h2 (by omega), vd, by rw [HN.out, List.take_length]; exact H.out, Chg.refl _ _⟩
  case round =>
    obtain ⟨k, hk, rfl, hb, vd', h5, hc5⟩ := hrel
    have c0 := h5.cells.c0
    have c3 := h5.cells.c3
    obtain ⟨gd, hd, hgd⟩ := h5.dn
    have hd : LR wr vd' (S.dn.take k) gd := hd
    have htl : (S.dn.take k).length = k := by rw [List.length_take]; have := HN.out; omega
    by_cases hk0 : k = 0
    · subst hk0
      have hm : backN S = 0 := by
        unfold backN
        rcases Nat.eq_zero_or_pos n with h0 | h0
        · have := HN.out; omega
        · have := hb 0 (Nat.le_refl _) h0; omega
      have HF : Hid (WPost B w r wb t (backF S) wr) := Lib.hid ⟨r, ⟨_, _, _, _, _, by unfold backF; rw [hm]; exact h5⟩, hc5, fun _ _ => rfl⟩
      have HF2 : Hid (∀ n, WPost B w r wb t (backF S) (wr.drewN n)) := Lib.hid fun n => WPost.trans HF.out.choose_spec.2.1 HF.out.choose_spec.2.2 (WPost.below HF.out.choose_spec.1 (below_drewN (Below.refl _ _) _))
      have hz : (((0 : Nat) : Int) - 1) = -1 := by omega
      rw [hz]
      clear hb h5 hc5 hd hgd htl hm hz
      go_wp2
      go_quiet (fail)
      go_wp2
      go_returns
      exact ⟨rfl, HF2.out _⟩
    · obtain ⟨i, rfl⟩ : ∃ i, k = i + 1 := ⟨k - 1, by omega⟩
      have hi1 : (((i + 1 : Nat) : Int) - 1) = (i : Int) := by omega
      rw [hi1]
      obtain ⟨b, cap, hv, hg, x0, f0⟩ := hd.at_ (j := i) (by rw [htl]; omega)
      rw [htl] at hv
      subst hv
      have hcap : i + 1 ≤ cap := by
        obtain ⟨a2, cap2, hv2, hle, -⟩ := hd.form
        injection hv2 with e1 e2 e3
        rw [htl, ← e3] at hle
        exact hle
      obtain ⟨x, hx⟩ : ∃ x, x = (S.dn.take (i + 1)).getD i 0 := ⟨_, rfl⟩
      rw [← hx] at x0
      have hxe : x = S.dn.getD i 0 := by rw [hx]; simp [List.getD, List.getElem?_take_of_lt]
      obtain ⟨y, hy⟩ : ∃ y, y = S.t.wh.getD i 0 := ⟨_, rfl⟩
      have hwn : ∀ n : Nat, Calls Try.prog 33 #[.pointer (some ⟨t, 0, none⟩), .int .i64 i] (wr.drewN n) fun e w' => e = .returned (.int .i64 y) ∧ w' = wr.drewN n := fun n => by
        rw [hy]; exact when_ h5 HOK.out.wl n i
      have HWN := Lib.hid hwn
      have i0 : (0 : Int) ≤ (i : Int) := by omega
      have i1 : (i : Int) < ((i + 1 : Nat) : Int) := by omega
      by_cases hxy : y = x
      · have hb1 : (y != x) = false := by rw [bne_eq_false_iff_eq]; exact hxy
        have H5 := Lib.hid h5
        have HY := Lib.hid hy
        have HXE := Lib.hid hxe
        have HXY := Lib.hid hxy
        have HBB := Lib.hid hb
        have HC5 := Lib.hid hc5
        clear h5 hy hxe hxy hb hc5 hwn hx hd hgd htl hg hk0 hi1
        go_wp2
        go_quiet ((go_at_call 33; exact Calls.quiet_of_same (HWN.out _)))
        go_wp2
        go_returns
        refine ⟨rfl, ?_⟩
        have hil : i < S.t.l.length := by
          rcases Nat.lt_or_ge i S.t.l.length with h | h
          · exact h
          · have e : S.t.wh.getD i 0 = 0 := by simp [List.getD, List.getElem?_eq_none (by rw [HOK.out.wl]; exact h : S.t.wh.length ≤ i)]
            have := HOK.out.pos i (by have := HN.out; omega)
            rw [← HXE.out, ← HXY.out, HY.out] at this
            exact absurd e this
        have hm : backN S = i + 1 := by
          unfold backN
          rcases Nat.lt_or_ge (i + 1) n with h | h
          · have := HBB.out (i + 1) (Nat.le_refl _) h
            have := HN.out
            omega
          · have := HN.out
            omega
        have h6 := H5.out.chg (T := fun _ => False) ((Chg.refl _ wr).drewN nq) (fun _ _ h => h)
        rw [← hm] at h6
        exact ⟨r, ⟨_, _, _, _, _, h6⟩, HC5.out.drewN nq, fun _ _ => rfl⟩
      · have hb1 : (y != x) = true := by rw [bne_iff_ne]; exact hxy
        have hil : S.t.l.length ≤ i := by
          rcases Nat.lt_or_ge i S.t.l.length with h | h
          · exact absurd (by rw [hy, hxe]; exact (HOK.out.eq i (by have := HN.out; omega) h).symm) hxy
          · exact h
        have f3 := h5.st.frozen 3
        have H5 := Lib.hid h5
        have HD := Lib.hid hd
        have HGD := Lib.hid hgd
        have HTL := Lib.hid htl
        have HBB : Hid (∀ j, i ≤ j → j < n → S.t.l.length ≤ j) := Lib.hid fun j h1 h2 => by omega
        have HC5 := Lib.hid hc5
        clear h5 hy hxe hxy hb hc5 hwn hx hd hgd htl hg hk0 hi1 hil
        go_wp2
        go_quiet ((go_at_call 33; exact Calls.quiet_of_same (HWN.out _)))
        have h6 := H5.out.chg (T := fun _ => False) ((Chg.refl _ wr).drewN nq) (fun _ _ h => h)
        have g6 : Chg (fun b => r b ≠ 0) w (wr.drewN nq) := HC5.out.drewN nq
        have hd6 := HD.out.chg (S := fun _ => False) ((Chg.refl _ wr).drewN nq) (fun _ _ h => h)
        generalize wr.drewN nq = wz at *
        have c3z := h6.cells.c3
        have f3z := h6.st.frozen 3
        have c3z : wz.cell? ⟨wb, 3, none⟩ = some (.slice (some ⟨b, 0, none⟩) (i + 1) cap) := c3z
        have lz := h6.st.lt
        have H6 := Lib.hid h6
        have G6 := Lib.hid g6
        have HD6 := Lib.hid hd6
        clear h6 g6 hd6 c3 f3 c0 x0 f0
        go_wp2
        go_roundw
        case rel =>
          have hd7 := HD6.out
          have e1 : i + 1 = (S.dn.take (i + 1)).length := HTL.out.symm
          have hd8 : LR wz (.slice (some ⟨b, 0, none⟩) (S.dn.take (i + 1)).length cap) (S.dn.take (i + 1)) gd := by rw [← e1]; exact hd7
          have h9 := hd8.take i (by omega)
          rw [List.take_take, Nat.min_eq_left (by omega)] at h9
          have h10 := WV.setDn H6.out.x5 H6.out.st.lt (Nat.le_trans hB G6.out.size) (.slice (some ⟨b, 0, none⟩) i cap) (S.dn.take i) gd h9 HGD.out
          exact ⟨i, by omega, rfl, HBB.out, _, h10, G6.out.setCell (p := ⟨wb, 3, none⟩) (.inl (by show r wb ≠ 0; rw [H6.out.rst]; omega)) _⟩
        case measure => simp [intOf]
end Go.Proofs.Ytkaklgjdmlddmaa
