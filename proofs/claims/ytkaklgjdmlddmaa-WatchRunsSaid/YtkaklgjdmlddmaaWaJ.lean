/-
  Package watch: Remove.
-/
import Derived.Test.YtkaklgjdmlddmaaWaI
namespace Go.Proofs.Ytkaklgjdmlddmaa
open Go.ChangeShapes Go.WideShapes Go.ChangeAt Go.RowKit
set_option linter.unusedVariables false
set_option linter.unusedSimpArgs false
theorem Remove_nil (id : Int) (w : World) : Calls Try.prog 18 #[.pointer none, .int .i64 id] w fun e w' => e = .returned (.bool false) ∧ Below w.heap.size w w' := by
  go_enter Try.func18, Try.ntmps18
  go_wp2_with ((go_at_call 41; refine (is_nil _ _).mono ?_; rintro e w' ⟨rfl, rfl⟩))
  go_ret
  exact ⟨rfl, (Below.refl _ _).alloc (Nat.le_refl _) _⟩
theorem Remove_no {B : Nat} {w : World} {r : Nat → Nat} {wb t : Nat} {S : WS} (h : WAt B w r wb t S) (id : Int) (hi : isB S id = false) : Calls Try.prog 18 #[.pointer (some ⟨wb, 0, none⟩), .int .i64 id] w fun e w' => e = .returned (.bool false) ∧ Below w.heap.size w w' := by
  have h2 := h.below ((Below.refl _ w).alloc (Nat.le_refl _) (.cells #[.int .i64 id] 3))
  obtain ⟨vl, vs, vd, us, xs, h2⟩ := h2
  have HI := Lib.hid (is_ h2 id)
  rw [hi] at HI
  clear h h2 hi
  go_enter Try.func18, Try.ntmps18
  go_wp2_with ((go_at_call 41; refine (HI.out).mono ?_; rintro e w' ⟨rfl, rfl⟩))
  go_ret
  exact ⟨rfl, (Below.refl _ _).alloc (Nat.le_refl _) _⟩
def delL (ls : List (List Int)) (c : List Int) (id : Int) (k : Nat) : List (List Int) := (c.take k).foldl (fun ls l => ls.set (slotN l) (without (ls.getD (slotN l) []) id)) ls
theorem delL_step (ls : List (List Int)) (c : List Int) (id : Int) (k : Nat) (hk : k < c.length) : delL ls c id (k + 1) = (delL ls c id k).set (slotN (c.getD k 0)) (without ((delL ls c id k).getD (slotN (c.getD k 0)) []) id) := by
  unfold delL
  rw [List.take_succ_eq_append_getElem hk, List.foldl_append]
  simp [List.getD, hk]
theorem delL_len (ls : List (List Int)) (c : List Int) (id : Int) (k : Nat) : (delL ls c id k).length = ls.length := by
  unfold delL
  generalize c.take k = d
  induction d generalizing ls with
  | nil => rfl
  | cons x d ih => rw [List.foldl_cons, ih, List.length_set]
theorem far_cell {w : World} {p : Addr} {u v : Value} {b o : Nat} (h : w.cell? ⟨b, o, none⟩ = some v) (hne : b ≠ p.block) : (w.setCell p u).cell? ⟨b, o, none⟩ = some v := (World.cell?_of_block (Below.heap_setCell w p u b hne)).trans h
def removeF (S : WS) (id : Nat) : WS :=
  { t := S.t, cl := S.cl.set id [], ls := delL S.ls (S.cl.getD id []) id 2, dn := if S.bk = (id : Int) then [] else S.dn, bk := if S.bk = (id : Int) then -1 else S.bk }
/-- What a watch's lists must be for a clause to be removed. -/
structure RemOk (S : WS) (id : Nat) : Prop where
  lits : Lits3 (S.cl.getD id [])
  len : (S.cl.getD id []).length ≤ 1000
  has : ∀ k, k < 2 → k < (S.cl.getD id []).length → slotN ((S.cl.getD id []).getD k 0) < S.ls.length ∧ S.ls.getD (slotN ((S.cl.getD id []).getD k 0)) [] ≠ []
  ne : 2 ≤ (S.cl.getD id []).length → (S.cl.getD id []).getD 0 0 ≠ (S.cl.getD id []).getD 1 0
  lb : LB 100000 S.ls
theorem RemOk.at_ {S : WS} {id : Nat} (h : RemOk S id) {k : Nat} (hk : k < 2) (hk2 : k < (S.cl.getD id []).length) : slotN ((S.cl.getD id []).getD k 0) < S.ls.length ∧ (delL S.ls (S.cl.getD id []) id k).getD (slotN ((S.cl.getD id []).getD k 0)) [] ≠ [] ∧
    (delL S.ls (S.cl.getD id []) id k).getD (slotN ((S.cl.getD id []).getD k 0)) [] = S.ls.getD (slotN ((S.cl.getD id []).getD k 0)) [] := by
  obtain ⟨h1, h2⟩ := h.has k hk hk2
  have e : (delL S.ls (S.cl.getD id []) id k).getD (slotN ((S.cl.getD id []).getD k 0)) [] = S.ls.getD (slotN ((S.cl.getD id []).getD k 0)) [] := by
    rcases (show k = 0 ∨ k = 1 by omega) with rfl | rfl
    · rfl
    · rw [delL_step _ _ _ _ (by omega)]
      have hne := h.ne (by omega)
      rw [getD_set_ne]
      · rfl
      · intro e
        exact hne (slotN_inj (h.lits.at_ 0) (h.lits.at_ 1) e)
  exact ⟨h1, by rw [e]; exact h2, e⟩
theorem WV.rmCl {B : Nat} {w : World} {r : Nat → Nat} {wb t : Nat} {S : WS} {vs vd : Value} {gc cap : Nat} {us xs : List Value} (h : WV B w r wb t S (.slice (some ⟨gc, 0, none⟩) S.cl.length cap) vs vd us xs) (hB : B ≤ w.heap.size) (id : Nat) (hi : id < S.cl.length) :
    WV B (w.setCell ⟨gc, id, none⟩ (.slice none 0 0)) r wb t { S with cl := S.cl.set id [] } (.slice (some ⟨gc, 0, none⟩) S.cl.length cap) vs vd (us.set id (.slice none 0 0)) xs := by
  have hgc : r gc = 3 := h.rcl gc rfl
  have hy := h.wx.poke h.st.lt hB ⟨gc, id, none⟩ 3 hgc (.slice none 0 0)
  have hul := row_len h.cl
  refine ⟨hy.st (by simp), hy.rst, hy.tr (by simp), ?_, h.rcl, fun j hj => ?_, hy.ls (by simp), hy.rls (by simp), fun s hs => hy.xi s hs (by simp <;> omega), hy.dn (by simp), hy.lo, hy.hi⟩
  · have := h.cl.set1 id (.slice none 0 0)
    simpa using this
  · simp only [List.length_set] at hj
    show ∃ g, CL _ ((us.set id (.slice none 0 0)).getD j undef) ((S.cl.set id []).getD j []) g ∧ _
    by_cases e : id = j
    · subst e
      rw [getD_set_self _ _ _ _ (by omega), getD_set_self _ _ _ _ hi]
      exact ⟨none, ⟨LR.nil _, fun _ => rfl⟩, fun b hb => by cases hb⟩
    · rw [getD_set_ne _ _ _ _ _ e, getD_set_ne _ _ _ _ _ e]
      exact hy.ui j hj (by simp <;> omega)
theorem WV.setDn {B : Nat} {w : World} {r : Nat → Nat} {wb t : Nat} {S : WS} {vl vs vd : Value} {us xs : List Value} (h : WX [5] B w r wb t S vl vs vd us xs) (hw : wb < w.heap.size) (hB : B ≤ w.heap.size) (vd' : Value) (dn' : List Int) (g : Option Nat) (hd : LR w vd' dn' g) (hg : ∀ b, g = some b → r b = 5) :
    WV B (w.setCell ⟨wb, 3, none⟩ vd') r wb t { S with dn := dn' } vl vs vd' us xs := by
  have hb := h.st (by simp)
  have hy := h.poke hb.lt hB ⟨wb, 3, none⟩ 2 h.rst vd'
  refine ⟨hb.set_ 3 _, hy.rst, hy.tr (by simp), hy.cl (by simp), hy.rcl (by simp), fun j hj => hy.ui j hj (by simp <;> omega), hy.ls (by simp), hy.rls (by simp), fun s hs => hy.xi s hs (by simp <;> omega), ⟨g, ?_, hg⟩, hy.lo, hy.hi⟩
  exact hd.chg (chg_poke w ⟨wb, 3, none⟩ vd') (fun b hb e => by have e : b = wb := e; have h1 := hg b hb; have h2 := h.rst; rw [e] at h1; omega)
theorem WV.x5 {B : Nat} {w : World} {r : Nat → Nat} {wb t : Nat} {S : WS} {vl vs vd : Value} {us xs : List Value} (h : WV B w r wb t S vl vs vd us xs) : WX [5] B w r wb t S vl vs vd us xs :=
  ⟨fun _ => h.st, h.rst, fun _ => h.tr, fun _ => h.cl, fun _ => h.rcl, fun j hj _ => h.ui j hj, fun _ => h.ls, fun _ => h.rls, fun s hs _ => h.xi s hs, fun _ => h.dn, h.lo, h.hi⟩
set_option maxHeartbeats 4000000 in
set_option maxRecDepth 100000 in
theorem Remove_ {B : Nat} {w : World} {r : Nat → Nat} {wb t : Nat} {S : WS} (h : WAt B w r wb t S) (hB : B ≤ w.heap.size) (id : Nat) (hi : isB S id = true) (hok : RemOk S id) :
    Calls Try.prog 18 #[.pointer (some ⟨wb, 0, none⟩), .int .i64 id] w fun e w' => e = .returned (.bool true) ∧ WPost B w r wb t (removeF S id) w' := by
  obtain ⟨wA, hwA⟩ : ∃ wA, wA = w.alloc (.cells #[.int .i64 id] 3) := ⟨_, rfl⟩
  have hA : Below w.heap.size w wA := by rw [hwA]; exact (Below.refl _ w).alloc (Nat.le_refl _) _
  have hbox : Blk wA w.heap.size 3 #[.int .i64 id] := by rw [hwA]; exact Blk.new w 3 _
  have hz : ∀ b, w.heap.size ≤ b → r b = 0 := by obtain ⟨_, _, _, _, _, q⟩ := h; exact q.hi
  obtain ⟨vl, vs, vd, us, xs, h2⟩ := h.below hA
  have HI := Lib.hid (is_ h2 id)
  rw [hi] at HI
  have hil : id < S.cl.length := by
    unfold isB at hi
    rw [Bool.and_eq_true] at hi
    have := of_decide_eq_true hi.1
    omega
  have hcn : S.cl.getD id [] ≠ [] := by
    unfold isB at hi
    rw [Bool.and_eq_true] at hi
    have := hi.2
    rw [Int.toNat_natCast] at this
    intro e
    rw [e] at this
    simp at this
  obtain ⟨c, hc⟩ : ∃ c, c = S.cl.getD id [] := ⟨_, rfl⟩
  rw [← hc] at hcn
  have c1 := h2.cells.c1
  obtain ⟨gc, cap, rfl, x0, -, -, -⟩ := row_at1 h2.cl hil
  obtain ⟨gu, hu, hgu⟩ := h2.ui id hil
  obtain ⟨va, vc, hv, hvc, -⟩ := hu.1.form
  rw [hv] at x0
  rw [← hc] at x0 hvc
  obtain ⟨n, hn⟩ : ∃ n, n = c.length := ⟨_, rfl⟩
  rw [← hn] at x0 hvc
  obtain ⟨q, hq⟩ : ∃ q, q = S.cl.length := ⟨_, rfl⟩
  rw [← hq] at c1 hil
  have hn0 : 0 < n := by rw [hn]; exact List.length_pos_iff.2 hcn
  have i0 : (0 : Int) ≤ (id : Int) := by omega
  have i1 : (id : Int) < (q : Int) := by omega
  have b0 : wA.cell? ⟨w.heap.size, 0, none⟩ = some (.int .i64 id) := hbox.cell 0
  have hmi : (if (n : Int) < 2 then (n : Int) else 2) = ((min 2 n : Nat) : Int) := by split <;> omega
  obtain ⟨m, hm⟩ : ∃ m, m = min 2 n := ⟨_, rfl⟩
  rw [← hm] at hmi
  have hmn : m ≤ n := by omega
  have hm2 : m ≤ 2 := by omega
  have hmi2 : min (2 : Int) (n : Int) = (m : Int) := by omega
  have hmi3 : max (m : Int) 0 = (m : Int) := by omega
  have H2 := Lib.hid h2
  have HA := Lib.hid hA
  have HBX := Lib.hid hbox
  have HZ := Lib.hid hz
  have HOK := Lib.hid hok
  have HC := Lib.hid hc
  have HN := Lib.hid hn
  have HQ := Lib.hid hq
  have HU := Lib.hid hu
  have HV := Lib.hid hv
  have HM := Lib.hid hm
  clear h h2 hi hA hbox hz hok hc hn hq hu hgu hv hcn hm
  rw [hwA] at c1 x0 b0 HI
  go_enter Try.func18, Try.ntmps18
  go_wp2_with ((go_at_call 41; refine (HI.out).mono ?_; rintro e w' ⟨rfl, rfl⟩))
  go_quiet (fail)
  go_wp2
  clear hmi hmi2 hmi3 i0 i1
  have hq0 : Below w.heap.size w ((w.alloc (.cells #[.int .i64 id] 3)).drewN nq) := below_drewN (by rw [← hwA]; exact HA.out) _
  have h3 := H2.out.chg (T := fun _ => False) ((Chg.refl _ wA).drewN nq) (fun _ _ h => h)
  have hbx := HBX.out.below (below_drewN (Below.refl wA.heap.size wA) nq) HBX.out.lt
  rw [hwA] at h3 hbx
  generalize (w.alloc (.cells #[.int .i64 id] 3)).drewN nq = wx at *
  have H3 := Lib.hid h3
  have HX := Lib.hid hbx
  have HQ0 := Lib.hid hq0
  clear h3 hbx hq0 c1 x0 b0 HI
  have hBx : B ≤ wx.heap.size := Nat.le_trans hB HQ0.out.size
  go_loopw [7, 8, 26] (fun _ _ i wr => ∃ k : Nat, k ≤ m ∧ i = .int .i64 k ∧ PutP B wx r wb t { S with ls := delL S.ls c id k } (.slice (some ⟨gc, 0, none⟩) S.cl.length cap) vd us wr ∧ Blk wr w.heap.size 3 #[.int .i64 id]) (fun _ _ i _ => m - (intOf i).toNat)
  case atStart => exact ⟨0, Nat.zero_le _, rfl, ⟨r, vs, xs, H3.out, Chg.refl _ _, fun _ _ => rfl⟩, HX.out⟩
  case round =>
    obtain ⟨k, hk, rfl, ⟨r5, vs5, xs5, h5, hc5, hr5⟩, hb5⟩ := hrel
    by_cases hlt : (k : Int) < (m : Int)
    · have hkn : k < c.length := by have := HN.out; omega
      obtain ⟨ok1, ok2, ok3⟩ := HOK.out.at_ (k := k) (by omega) (by rw [← HC.out]; exact hkn)
      rw [← HC.out] at ok1 ok2 ok3
      obtain ⟨gu, hu5, -⟩ := h5.ui id (by have := HQ.out; show id < S.cl.length; omega)
      have hu5' : LR wr (.slice va n vc) c gu := by
        have := hu5.1
        rw [HV.out, ← HC.out, ← HN.out] at this
        exact this
      obtain ⟨b, cap', hv, -, y0, -⟩ := hu5'.at_ hkn
      injection hv with q1 q2 q3
      subst q1
      have hlk : lit3 (c.getD k 0) := by have := HOK.out.lits.at_ k; rwa [← HC.out] at this
      have hst := delL_step S.ls c id k hkn
      have hdl := delL_len S.ls c id k
      obtain ⟨x, hx⟩ : ∃ x, x = c.getD k 0 := ⟨_, rfl⟩
      rw [← hx] at y0 hlk hst ok1 ok2 ok3
      have hsl := slotN_cast hlk
      obtain ⟨s, hs⟩ : ∃ s, s = slotN x := ⟨_, rfl⟩
      rw [← hs] at hsl hst ok1 ok2 ok3
      have HSL := Lib.hid (fun W => slot_ x hlk W)
      rw [hsl] at HSL
      obtain ⟨l, hl⟩ : ∃ l, l = (delL S.ls c id k).getD s [] := ⟨_, rfl⟩
      rw [← hl] at ok2 ok3 hst
      have hsi : s < (delL S.ls c id k).length := by rw [hdl]; exact ok1
      obtain ⟨gs, caps, hvs, z0, zf, -, -⟩ := row_at1 h5.ls hsi
      subst hvs
      obtain ⟨gx, hxs, hgx⟩ := h5.xi s hsi
      have hxs : LR wr (xs5.getD s undef) l gx := by rw [hl]; exact hxs
      obtain ⟨gl, capl, hvl, hgl, -, -⟩ := hxs.at_ (j := 0) (List.length_pos_iff.2 ok2)
      rw [hvl] at z0 hxs
      rw [hgl] at hxs hgx
      have c2 := h5.cells.c2
      have lw := h5.st.lt
      obtain ⟨nl, hnl⟩ : ∃ nl, nl = l.length := ⟨_, rfl⟩
      obtain ⟨ns, hns⟩ : ∃ ns, ns = (delL S.ls c id k).length := ⟨_, rfl⟩
      have z0' : wr.cell? ⟨gs, s, none⟩ = some (.slice (some ⟨gl, 0, none⟩) nl capl) := by rw [hnl]; exact z0
      have c2' : wr.cell? ⟨wb, 2, none⟩ = some (.slice (some ⟨gs, 0, none⟩) ns caps) := by rw [hns]; exact c2
      have hsn : s < ns := by omega
      have hglr : gl ≠ w.heap.size := fun e => by
        have h1 := hgx gl rfl
        have h2 := hr5 w.heap.size HX.out.lt
        have h3 := HZ.out w.heap.size (Nat.le_refl _)
        rw [e] at h1
        omega
      have hlb := HOK.out.lb.2 s
      rw [← ok3] at hlb
      have hdel : ∀ W, Below wr.heap.size wr W → Calls Try.prog 42 #[.slice (some ⟨gl, 0, none⟩) nl capl, .func (.func 43) #[] #[.pointer (some ⟨w.heap.size, 0, none⟩)]] W fun e w' => ∃ u, e = .returned u ∧ LR w' u (without l id) (some gl) ∧ Chg (fun k => k = gl) W w' := fun W hW => by
        rw [hnl]
        exact del_LR (hxs.below hW) (hb5.below hW hb5.lt) (fun e => hglr e.symm) (by omega)
      have hgsr : r5 gs = 4 := h5.rls gs rfl
      have hbr : r5 w.heap.size = 0 := (hr5 w.heap.size HX.out.lt).trans (HZ.out w.heap.size (Nat.le_refl _))
      have hkeep : ∀ W W', Below wr.heap.size wr W → Chg (fun k => k = gl) W W' → W'.cell? ⟨wb, 2, none⟩ = some (.slice (some ⟨gs, 0, none⟩) ns caps) ∧ W'.cell? ⟨gs, s, none⟩ = some (.slice (some ⟨gl, 0, none⟩) nl capl) ∧ W'.frozen? ⟨gs, s, none⟩ = false ∧ Blk W' w.heap.size 3 #[.int .i64 id] := by
        intro W W' hW hc
        have hg1 := hgx gl rfl
        have e1 : wb ≠ gl := fun e => by have := h5.rst; rw [e] at this; omega
        have e2 : gs ≠ gl := fun e => by rw [e] at hgsr; omega
        have lgs := World.block_lt_of_cell? wr _ z0'
        have hlW : wb < W.heap.size := Nat.lt_of_lt_of_le lw hW.size
        have hlS : gs < W.heap.size := Nat.lt_of_lt_of_le lgs hW.size
        refine ⟨?_, ?_, ?_, (hb5.below hW hb5.lt).chg hc (fun e => hglr e.symm)⟩
        · rw [World.cell?_of_block (w := W) (hc.block wb hlW e1), hW.cell (p := ⟨wb, 2, none⟩) lw]; exact c2'
        · rw [World.cell?_of_block (w := W) (hc.block gs hlS e2), hW.cell (p := ⟨gs, s, none⟩) lgs]; exact z0'
        · have hr := (h5.ls.chg (S := fun _ => False) (Chg.of_below hW) (fun _ _ h => h)).chg hc (fun g hg e => e2 ((show gs = g by simpa [Value.ownBlock] using hg).trans e))
          obtain ⟨g', cap'', hv', -, q4, -, -⟩ := row_at1 hr hsi
          injection hv' with e3 e4 e5
          injection e3 with e3
          injection e3 with e3
          subst e3
          exact q4
      have hbgs : w.heap.size ≠ gs := fun e => by rw [← e] at hgsr; omega
      have hwg : wb ≠ gs := fun e => by have := h5.rst; rw [e] at this; omega
      have HDEL := Lib.hid hdel
      have HKEEP := Lib.hid hkeep
      have H5 := Lib.hid h5
      have HC5 := Lib.hid hc5
      have HR5 := Lib.hid hr5
      have HST := Lib.hid hst
      have HB5 := Lib.hid hb5
      have HGX := Lib.hid hgx
      have HSI := Lib.hid hsi
      have s0 : (0 : Int) ≤ (s : Int) := by omega
      have s1 : (s : Int) < (ns : Int) := by omega
      have bx0 : wr.cell? ⟨w.heap.size, 0, none⟩ = some (.int .i64 id) := hb5.cell 0
      have HY : Hid (∃ g cp, (Value.slice (some ⟨gs, 0, none⟩) (delL S.ls c id k).length caps) = .slice g (delL S.ls c id k).length cp) := Lib.hid ⟨_, _, rfl⟩
      clear hdel hkeep h5 hc5 hr5 hst hb5 hgx hsi hx hs hl hnl hns hvl hgl hxs c2 z0 hgsr hbr hu5 hu5' hdl hkn q2 q3 hlk ok1 ok2 ok3 hsl hlb
      go_wp2_with ((go_at_call 32; refine (HSL.out _).mono ?_; rintro e w' ⟨rfl, rfl⟩))
      refine wp_region_held_drew (S := (fun w' => w'.cell? ⟨wb, 2, none⟩ = some (.slice (some ⟨gs, 0, none⟩) ns caps))) (by kernel_rfl) ?_ (fun hHeld => ?_)
      · (try dsimp only) <;> go_keep
      refine wpAnyH_take (i := 0) (v := ?_) rfl (by kernel_rfl) (by kernel_rfl) (by kernel_rfl) (fun _ _ _ h => h) (Or.inl ⟨by rfl, ?_⟩) (by assumption) ?_
      rotate_left
      · (intro w hSw; (try dsimp only at hSw); go_simp; try with_reducible rfl)
      try simp only [Act.put, List.setIfInBounds_toArray, List.set_cons_zero, List.set_cons_succ]
      refine wpAnyH_take (i := 1) (v := ?_) rfl (by kernel_rfl) (by kernel_rfl) (by kernel_rfl) (fun _ _ _ h => h) (Or.inl ⟨by rfl, ?_⟩) (by assumption) ?_
      rotate_left
      · (intro w hSw; (try dsimp only at hSw); go_simp; try with_reducible rfl)
      try simp only [Act.put, List.setIfInBounds_toArray, List.set_cons_zero, List.set_cons_succ]
      refine wpAnyH_take (i := 2) (v := ?_) rfl (by kernel_rfl) (by kernel_rfl) (by kernel_rfl) (fun _ _ _ h => h) (Or.inl ⟨by rfl, ?_⟩) (by assumption) ?_
      rotate_left
      · (intro w hSw; (try dsimp only at hSw); go_simp; try with_reducible rfl)
      try simp only [Act.put, List.setIfInBounds_toArray, List.set_cons_zero, List.set_cons_succ]
      refine wpAnyH_take (i := 3) (v := ?_) rfl (by kernel_rfl) (by kernel_rfl) (by kernel_rfl) (fun _ _ _ h => h) (Or.inl ⟨by rfl, ?_⟩) (by assumption) ?_
      rotate_left
      · (intro w hSw; (try dsimp only at hSw); go_simp; try with_reducible rfl)
      try simp only [Act.put, List.setIfInBounds_toArray, List.set_cons_zero, List.set_cons_succ]
      refine wpAnyH_take (i := 4) (v := ?_) rfl (by kernel_rfl) (by kernel_rfl) (by kernel_rfl) (fun _ _ _ h => h) (Or.inl ⟨by rfl, ?_⟩) (by assumption) ?_
      rotate_left
      · (intro w hSw; (try dsimp only at hSw); go_simp; try with_reducible rfl)
      try simp only [Act.put, List.setIfInBounds_toArray, List.set_cons_zero, List.set_cons_succ]
      refine wpAnyH_take (i := 5) (v := ?_) rfl (by kernel_rfl) (by kernel_rfl) (by kernel_rfl) (fun _ _ _ h => h) (Or.inl ⟨by rfl, ?_⟩) (by assumption) ?_
      rotate_left
      · (intro w hSw; (try dsimp only at hSw); go_simp; try with_reducible rfl)
      try simp only [Act.put, List.setIfInBounds_toArray, List.set_cons_zero, List.set_cons_succ]
      refine wpAnyH_take (i := 6) (v := ?_) rfl (by kernel_rfl) (by kernel_rfl) (by kernel_rfl) (fun _ _ _ h => h) (Or.inl ⟨by rfl, ?_⟩) (by assumption) ?_
      rotate_left
      · (intro w hSw; (try dsimp only at hSw); go_simp; try with_reducible rfl)
      try simp only [Act.put, List.setIfInBounds_toArray, List.set_cons_zero, List.set_cons_succ]
      refine wpAnyH_take (i := 7) (v := ?_) rfl (by kernel_rfl) (by kernel_rfl) (by kernel_rfl) (fun _ _ _ h => h) (Or.inl ⟨by rfl, ?_⟩) (by assumption) ?_
      rotate_left
      · (intro w hSw; (try dsimp only at hSw); go_simp; try with_reducible rfl)
      try simp only [Act.put, List.setIfInBounds_toArray, List.set_cons_zero, List.set_cons_succ]
      refine wpAnyH_take (i := 8) (v := ?_) rfl (by kernel_rfl) (by kernel_rfl) (by kernel_rfl) (fun _ _ _ h => h) (Or.inl ⟨by rfl, ?_⟩) (by assumption) ?_
      rotate_left
      · (intro w hSw; (try dsimp only at hSw); go_simp; try with_reducible rfl)
      try simp only [Act.put, List.setIfInBounds_toArray, List.set_cons_zero, List.set_cons_succ]
      refine wpAnyH_take (i := 9) (v := ?_) rfl (by kernel_rfl) (by kernel_rfl) (by kernel_rfl) (fun _ _ _ h => h) (Or.inl ⟨by rfl, ?_⟩) (by assumption) ?_
      rotate_left
      · (intro w hSw; (try dsimp only at hSw); go_simp; try with_reducible rfl)
      try simp only [Act.put, List.setIfInBounds_toArray, List.set_cons_zero, List.set_cons_succ]
      refine wpAnyH_take (i := 10) (v := ?_) rfl (by kernel_rfl) (by kernel_rfl) (by kernel_rfl) (fun _ _ _ h => h) (Or.inl ⟨by rfl, ?_⟩) (by assumption) ?_
      rotate_left
      · (intro w hSw; (try dsimp only at hSw); go_simp; try with_reducible rfl)
      try simp only [Act.put, List.setIfInBounds_toArray, List.set_cons_zero, List.set_cons_succ]
      refine wpAnyH_take (i := 12) (v := ?_) rfl (by kernel_rfl) (by kernel_rfl) (by kernel_rfl) (fun _ _ _ h => h) (Or.inl ⟨by rfl, ?_⟩) (by assumption) ?_
      rotate_left
      · (intro w hSw; (try dsimp only at hSw); go_simp; try with_reducible rfl)
      try simp only [Act.put, List.setIfInBounds_toArray, List.set_cons_zero, List.set_cons_succ]
      refine wpAnyH_ready (rs := [11]) (by kernel_rfl) (by simp) ?_
      refine AllReadyH.cons rfl (fun K hK => ?_) AllReadyH.nil
      go_simp
      skip
      refine hK.out _ _ ?_ (fun hHeld => ?_)
      · (try dsimp only) <;> assumption
      clear hK K
      try simp only [Act.put, List.setIfInBounds_toArray, List.set_cons_zero, List.set_cons_succ]
      refine wpAnyH_ready (rs := [13]) (by kernel_rfl) (by simp) ?_
      refine AllReadyH.cons rfl (fun K hK => ?_) AllReadyH.nil
      go_simp
      (go_at_call 42; refine (HDEL.out _ ((Below.refl _ _).drew)).mono ?_; rintro e w6 ⟨u, rfl, hL, hC⟩; obtain ⟨ao, co, rfl, -⟩ := hL.form; obtain ⟨k2, kz, kf, kb⟩ := HKEEP.out _ w6 ((Below.refl _ _).drew) hC; have HL6 := Lib.hid hL; have HC6 := Lib.hid hC; have HB6 := Lib.hid kb; clear hL hC kb)
      refine hK.out _ _ ?_ (fun hHeld => ?_)
      · (try dsimp only) <;> assumption
      clear hK K
      try simp only [Act.put, List.setIfInBounds_toArray, List.set_cons_zero, List.set_cons_succ]
      refine wpAnyH_take (i := 14) (v := ?_) rfl (by kernel_rfl) (by kernel_rfl) (by kernel_rfl) (fun _ _ _ h => h) (Or.inl ⟨by rfl, ?_⟩) (by assumption) ?_
      rotate_left
      · (intro w hSw; (try dsimp only at hSw); go_simp; try with_reducible rfl)
      try simp only [Act.put, List.setIfInBounds_toArray, List.set_cons_zero, List.set_cons_succ]
      refine wpAnyH_ready (rs := [15]) (by kernel_rfl) (by simp) ?_
      refine AllReadyH.cons rfl (fun K hK => ?_) AllReadyH.nil
      go_simp
      skip
      refine hK.out _ _ ?_ (fun hHeld => ?_)
      · (try dsimp only) <;> exact far_cell (by assumption) hwg
      clear hK K
      try simp only [Act.put, List.setIfInBounds_toArray, List.set_cons_zero, List.set_cons_succ]
      refine wpAnyH_done (by kernel_rfl) ?_ _
      all_goals
        clear k2 kz kf
        go_wp2
        go_roundw
        case rel =>
          have h6 := H5.out.chg (T := fun _ => False) ((Chg.refl _ wr).drew) (fun _ _ h => h)
          obtain ⟨r', q1, q2, q3⟩ := WV.putAt h6 (Nat.le_trans hBx HC5.out.size) s HSI.out (without l id) (some gl) HGX.out ⟨some gl, HL6.out, HC6.out.mono (fun i hi => by rw [hi]), .inl rfl⟩
          have hq : PutP B wr r5 wb t { S with ls := (delL S.ls c id k).set s (without l id) } (.slice (some ⟨gc, 0, none⟩) S.cl.length cap) vd us _ := ⟨r', _, _, q1, ((Chg.refl _ wr).drew).trans q2 (fun i hi => .inl hi), q3⟩
          rw [← HST.out] at hq
          exact ⟨k + 1, by omega, by go_num, PutP.trans HC5.out HR5.out hq, HB6.out.far hbgs _⟩
        case measure => simp [intOf]; omega
    · have hkm : k = m := by omega
      have hls : delL S.ls c id k = delL S.ls c id 2 := by
        rw [hkm]
        unfold delL
        have e : c.take m = c.take 2 := by
          rw [HM.out]
          rcases Nat.lt_or_ge n 2 with h | h
          · rw [Nat.min_eq_right (by omega), List.take_of_length_le (by have := HN.out; omega), List.take_of_length_le (by have := HN.out; omega)]
          · rw [Nat.min_eq_left h]
        rw [e]
      rw [hls] at h5
      have c1 := h5.cells.c1
      have c4 := h5.cells.c4
      have lw := h5.st.lt
      obtain ⟨-, -, -, y0, yf, -, -⟩ := row_at1 h5.cl (i := id) (by have := HQ.out; show id < S.cl.length; omega)
      have c1' : wr.cell? ⟨wb, 1, none⟩ = some (.slice (some ⟨gc, 0, none⟩) q cap) := by rw [HQ.out]; exact c1
      have bx0 : wr.cell? ⟨w.heap.size, 0, none⟩ = some (.int .i64 id) := hb5.cell 0
      have i0 : (0 : Int) ≤ (id : Int) := by omega
      have i1 : (id : Int) < (q : Int) := by omega
      obtain ⟨gc', cap', hv', y0, yf, -, -⟩ := row_at1 h5.cl (i := id) (by have := HQ.out; show id < S.cl.length; omega)
      injection hv' with e1 e2 e3
      injection e1 with e1
      injection e1 with e1
      subst e1
      have H5 := Lib.hid h5
      have HC5 := Lib.hid hc5
      have HR5 := Lib.hid hr5
      have HB5 := Lib.hid hb5
      have hBr : B ≤ wr.heap.size := Nat.le_trans hBx hc5.size
      have hgcr : r5 gc = 3 := h5.rcl gc rfl
      have hbr : r5 w.heap.size = 0 := (hr5 w.heap.size HX.out.lt).trans (HZ.out w.heap.size (Nat.le_refl _))
      have hbc : w.heap.size ≠ gc := fun e => by rw [← e] at hgcr; omega
      clear h5 hc5 hr5 hb5 hkm hls c1 hgcr hbr e2 e3
      go_wp2
      go_region
      all_goals
        have h6 := ((H5.out.rmCl hBr id (by have := HQ.out; show id < S.cl.length; omega)).chg (T := fun _ => False) ((Chg.refl _ _).drew) (fun _ _ h => h))
        have b6 := (HB5.out.far (p := ⟨gc, id, none⟩) hbc (.slice none 0 0)).drew
        have g6 : Chg (fun b => r5 b ≠ 0) wr (wr.setCell ⟨gc, id, none⟩ (.slice none 0 0)).drew := ((Chg.refl _ wr).setCell (p := ⟨gc, id, none⟩) (.inl (by show r5 gc ≠ 0; rw [H5.out.rcl gc rfl]; omega)) _).drew
        go_wp2
        generalize (wr.setCell ⟨gc, id, none⟩ (.slice none 0 0)).drew = wz at *
        have c4 := h6.cells.c4
        have bz0 : wz.cell? ⟨w.heap.size, 0, none⟩ = some (.int .i64 id) := b6.cell 0
        have f3 := h6.st.frozen 3
        have f4 := h6.st.frozen 4
        have c3 := h6.cells.c3
        have lz := h6.st.lt
        have H6 := Lib.hid h6
        have G6 := Lib.hid g6
        have hBz : B ≤ wz.heap.size := Nat.le_trans hBr g6.size
        have HRM : Hid (removeF S id = { t := S.t, cl := S.cl.set id [], ls := delL S.ls c id 2, dn := if S.bk = (id : Int) then [] else S.dn, bk := if S.bk = (id : Int) then -1 else S.bk }) := Lib.hid (by unfold removeF; rw [← HC.out])
        have HW0 : Hid (Chg (fun b => r b ≠ 0) w wx) := Lib.hid (Chg.of_below HQ0.out)
        clear h6 b6 g6 y0 yf c1' bx0
        by_cases hbk : S.bk = (id : Int)
        · have hb : (S.bk == (id : Int)) = true := by rw [beq_iff_eq]; exact hbk
          have HBK := Lib.hid hbk
          clear hbk
          go_quiet (fail)
          go_wp2
          go_ret
          refine ⟨rfl, ?_⟩
          rw [HRM.out, if_pos HBK.out, if_pos HBK.out]
          have h7 := (H6.out.chg (T := fun _ => False) ((Chg.refl _ wz).drewN nq) (fun _ _ h => h)).setBk hBz (-1)
          have h8 := WV.setDn h7.x5 h7.st.lt (by simpa [World.setCell] using hBz) (.slice none 0 0) [] none (LR.nil _) (fun b hb => by cases hb)
          refine WPost.trans HW0.out (fun _ _ => rfl) (WPost.trans HC5.out HR5.out ⟨r5, ⟨_, _, _, _, _, h8⟩, ?_, fun _ _ => rfl⟩)
          exact (((G6.out.drewN nq).setCell (p := ⟨wb, 4, none⟩) (.inl (by show r5 wb ≠ 0; rw [H6.out.rst]; omega)) _).setCell (p := ⟨wb, 3, none⟩) (.inl (by show r5 wb ≠ 0; rw [H6.out.rst]; omega)) _)
        · have hb : (S.bk == (id : Int)) = false := by rw [beq_eq_false_iff_ne]; exact hbk
          have HBK := Lib.hid hbk
          clear hbk
          go_quiet (fail)
          go_wp2
          go_ret
          refine ⟨rfl, ?_⟩
          rw [HRM.out, if_neg HBK.out, if_neg HBK.out]
          exact WPost.trans HW0.out (fun _ _ => rfl) (WPost.trans HC5.out HR5.out ⟨r5, ⟨_, _, _, _, _, H6.out.chg (T := fun _ => False) ((Chg.refl _ wz).drewN nq) (fun _ _ h => h)⟩, G6.out.drewN nq, fun _ _ => rfl⟩)
end Go.Proofs.Ytkaklgjdmlddmaa
