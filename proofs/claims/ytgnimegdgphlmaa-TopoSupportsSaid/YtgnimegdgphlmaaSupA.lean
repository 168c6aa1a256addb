/-
  Package topo: Support's search from one variable, walked.
-/
import Derived.Test.YtgnimegdgphlmaaTopZ
import Derived.Test.YtgnimegdgphlmaaSupM
import Derived.Deep.RegionHeld3
import Derived.IntWalk
namespace Go.Proofs.Ytgnimegdgphlmaa
open Go.ChangeShapes Go.WideShapes Go.ChangeAt Go.RowKit
set_option linter.unusedVariables false
set_option linter.unusedSimpArgs false
attribute [local go_sem ↓] Go.wp_at_zero Go.wp_at_succ
section
variable {w0 W W' : World} {d : NetD} {V : Nat} {vi vl vo vb vc vm va : Value} {bw bo bm bl : Nat} {nv : Value} {ns : List NodeD} {fo fm fl : Nat → Nat}
theorem Wk.chg (h : Wk w0 d V vi vl vo vb vc vm va bw bo bm bl nv ns fo fm fl W) {S : Nat → Prop} (hc : Chg S W W') (hS : ∀ k, S k → w0.heap.size ≤ k ∧ k ≠ bw ∧ k ≠ bo ∧ k ≠ bm ∧ k ≠ bl ∧ nv.ownBlock ≠ some k) : Wk w0 d V vi vl vo vb vc vm va bw bo bm bl nv ns fo fm fl W' :=
  ⟨h.net, h.low.trans (hc.below h.low.size (fun k hk => (hS k hk).1)), h.box.chg hc (fun hk => (hS _ hk).2.1 rfl), Blk.chg h.of_ hc (fun hk => (hS _ hk).2.2.1 rfl), Blk.chg h.mks hc (fun hk => (hS _ hk).2.2.2.1 rfl), Blk.chg h.lv hc (fun hk => (hS _ hk).2.2.2.2.1 rfl), h.row.chg hc (fun g hg hk => (hS _ hk).2.2.2.2.2 hg), h.pw, h.ne, h.far⟩
end
/-- What the search works on: the boxes of the netlist, of who is in, of the walker, of itself; and who is in. -/
structure Sp (w0 : World) (d : NetD) (V : Nat) (vi vl vo vb vc vm va : Value) (bw bo bm bl : Nat) (nv : Value) (m9 lv9 : Int → Nat) (bx bi bp ba bg : Nat) (m : Int → Bool) (W : World) : Prop where
  wk : Wk w0 d V vi vl vo vb vc vm va bw bo bm bl nv (nodesN d) (fun i => ofN (nodesN d) i) (fun i => m9 i) (fun i => lv9 i) W
  box : NBox W bx d vi vl vo vb vc vm va
  inb : Blk W bi 48 #[.slice (some ⟨bg, 0, none⟩) (V + 1) (V + 1)]
  wpb : Blk W bp 61 #[.pointer (some ⟨bw, 0, none⟩)]
  adb : Blk W ba 64 #[.func (.func 24) #[] #[.pointer (some ⟨bx, 0, none⟩), .pointer (some ⟨bi, 0, none⟩), .pointer (some ⟨bp, 0, none⟩), .pointer (some ⟨ba, 0, none⟩)]]
  ins : VBlk W bg 4 (V + 1) (fun i => .bool (m i))
  far : w0.heap.size ≤ bg ∧ bg ≠ bw ∧ bg ≠ bo ∧ bg ≠ bm ∧ bg ≠ bl ∧ nv.ownBlock ≠ some bg
  ne : bg ≠ bx ∧ bg ≠ bi ∧ bg ≠ bp ∧ bg ≠ ba
section
variable {w0 W W' : World} {d : NetD} {V : Nat} {vi vl vo vb vc vm va : Value} {bw bo bm bl : Nat} {nv : Value} {m9 lv9 : Int → Nat} {bx bi bp ba bg : Nat} {m : Int → Bool}
theorem Sp.below (h : Sp w0 d V vi vl vo vb vc vm va bw bo bm bl nv m9 lv9 bx bi bp ba bg m W) (hb : Below W.heap.size W W') : Sp w0 d V vi vl vo vb vc vm va bw bo bm bl nv m9 lv9 bx bi bp ba bg m W' :=
  ⟨h.wk.below hb, h.box.later hb, h.inb.below hb h.inb.lt, h.wpb.below hb h.wpb.lt, h.adb.below hb h.adb.lt, h.ins.later hb, h.far, h.ne⟩
theorem Sp.set_ (h : Sp w0 d V vi vl vo vb vc vm va bw bo bm bl nv m9 lv9 bx bi bp ba bg m W) (k : Nat) : Sp w0 d V vi vl vo vb vc vm va bw bo bm bl nv m9 lv9 bx bi bp ba bg (set1 m k) (W.setCell ⟨bg, k, none⟩ (.bool true)) := by
  have hc : Chg (fun i => i = bg) W (W.setCell ⟨bg, k, none⟩ (.bool true)) := (Chg.refl (fun i => i = bg) W).setCell (p := ⟨bg, k, none⟩) (.inl rfl) _
  refine ⟨h.wk.chg hc (fun k hk => by subst hk; exact h.far), Blk.chg h.box hc (by simpa using h.ne.1.symm), h.inb.chg hc (by simpa using h.ne.2.1.symm), h.wpb.chg hc (by simpa using h.ne.2.2.1.symm), h.adb.chg hc (by simpa using h.ne.2.2.2.symm), (h.ins.set_ k _).ext (fun i _ => ?_), h.far, h.ne⟩
  unfold set1
  by_cases e : i = k
  · simp [e]
  · have e2 : (i : Int) ≠ (k : Int) := by omega
    simp [e, e2]
end
/-- What the search from v comes to. -/
def AddR (w0 : World) (d : NetD) (V : Nat) (vi vl vo vb vc vm va : Value) (bw bo bm bl : Nat) (nv : Value) (m9 lv9 : Int → Nat) (bx bi bp ba bg : Nat) (m : Int → Bool) (v : Int) (W : World) (e : Ending) (w' : World) : Prop :=
  e = .returned (.tuple #[]) ∧ Chg (fun k => k = bg) W w' ∧ ∃ m', AddQ (nodesN d) V m m' v ∧ Sp w0 d V vi vl vo vb vc vm va bw bo bm bl nv m9 lv9 bx bi bp ba bg m' w'
set_option maxHeartbeats 16000000 in
set_option maxRecDepth 100000 in
theorem add_ {w0 : World} {d : NetD} {V : Nat} {vi vl vo vb vc vm va : Value} {bw bo bm bl : Nat} {nv : Value} {m9 lv9 : Int → Nat} {bx bi bp ba bg : Nat} (hl0 : lightN d = true) (hs : SoundD d V) :
    ∀ (N : Nat) (m : Int → Bool) (v : Int) (W : World), cntB V m < N → 0 ≤ v → v ≤ 2305843009213693952 → Sp w0 d V vi vl vo vb vc vm va bw bo bm bl nv m9 lv9 bx bi bp ba bg m W →
      Calls Try.prog 24 #[.int .i64 v, .pointer (some ⟨bx, 0, none⟩), .pointer (some ⟨bi, 0, none⟩), .pointer (some ⟨bp, 0, none⟩), .pointer (some ⟨ba, 0, none⟩)] W (AddR w0 d V vi vl vo vb vc vm va bw bo bm bl nv m9 lv9 bx bi bp ba bg m v W) := by
  have ok := hs.nodes
  have hlen := nodes_len hs
  have hV := hs.lim
  have hdv : d.vars = V := hs.vars
  have HS := Lib.hid hs
  have HL0 := Lib.hid hl0
  have HOK := Lib.hid ok
  have HLEN := Lib.hid hlen
  have HDV := Lib.hid hdv
  clear hl0 hs ok hlen hdv
  intro N
  induction N with
  | zero => intro m v W h; exact absurd h (by omega)
  | succ N ih =>
    intro m v W hcn hv0 hv9 hW
    have HIH := Lib.hid ih
    have HW := Lib.hid hW
    have HCN := Lib.hid hcn
    have c0 := hW.box.c0
    rw [HDV.out] at c0
    have ci : W.cell? ⟨bi, 0, none⟩ = some (.slice (some ⟨bg, 0, none⟩) (V + 1) (V + 1)) := hW.inb.cell 0
    have hskip : Hid (v < 1 ∨ (V : Int) < v ∨ m v = true → AddR w0 d V vi vl vo vb vc vm va bw bo bm bl nv m9 lv9 bx bi bp ba bg m v W (.returned (.tuple #[])) W) := Lib.hid fun h =>
      ⟨rfl, Chg.refl _ _, m, AddQ.skip h, HW.out⟩
    clear ih hW hcn
    by_cases h1 : v < 1
    · have HF := Lib.hid (hskip.out (.inl h1))
      go_enter Try.func24, Try.ntmps24
      go_wp2
      go_returns
      exact HF.out
    · by_cases h2 : (V : Int) < v
      · have HF := Lib.hid (hskip.out (.inr (.inl h2)))
        go_enter Try.func24, Try.ntmps24
        go_wp2
        go_returns
        exact HF.out
      · obtain ⟨vn, rfl⟩ : ∃ vn : Nat, v = vn := ⟨v.toNat, by omega⟩
        have hvV1 : vn < V + 1 := by omega
        have hvV2 : (vn : Int) < (V : Int) + 1 := by omega
        have cin := HW.out.ins.cell hvV1
        obtain ⟨q, hq⟩ : ∃ q, q = m vn := ⟨_, rfl⟩
        rw [← hq] at cin hskip
        cases q with
        | true =>
          have HF := Lib.hid (hskip.out (.inr (.inr rfl)))
          clear hq
          go_enter Try.func24, Try.ntmps24
          go_wp2
          go_returns
          exact HF.out
        | false =>
          have HQ := Lib.hid hq
          clear hq hskip
          have fin := HW.out.ins.frozen vn
          obtain ⟨W1, hW1⟩ : ∃ W1 : World, W1 = W.setCell ⟨bg, vn, none⟩ (.bool true) := ⟨_, rfl⟩
          have HS1 : Hid (Sp w0 d V vi vl vo vb vc vm va bw bo bm bl nv m9 lv9 bx bi bp ba bg (set1 m vn) W1) := Lib.hid (by rw [hW1]; exact HW.out.set_ vn)
          have HC1 : Hid (Chg (fun k => k = bg) W W1) := Lib.hid (by rw [hW1]; exact (Chg.refl (fun k => k = bg) W).setCell (p := ⟨bg, vn, none⟩) (.inl rfl) _)
          obtain ⟨c8, c9, -, -, -, -⟩ := HS1.out.wk.c
          have cp : W1.cell? ⟨bp, 0, none⟩ = some (.pointer (some ⟨bw, 0, none⟩)) := HS1.out.wpb.cell 0
          have cof := HS1.out.wk.of_.cell hvV1
          obtain ⟨o9, ho9⟩ : ∃ o9, o9 = ofN (nodesN d) ((vn : Nat) : Int) := ⟨_, rfl⟩
          rw [← ho9] at cof
          have HO9 := Lib.hid ho9
          have HE1 := Lib.hid hW1
          rw [hW1] at c8 c9 cp cof
          clear hW1 ho9
          by_cases hA : o9 = 0
          · have hb : (((o9 : Nat) : Int) == 0) = true := by rw [hA]; rfl
            have HF : Hid (AddR w0 d V vi vl vo vb vc vm va bw bo bm bl nv m9 lv9 bx bi bp ba bg m vn W (.returned (.tuple #[])) W1) := Lib.hid ⟨rfl, HC1.out, set1 m vn, AddQ.leaf (by omega) (by omega) (by rw [← HO9.out]; exact hA), HS1.out⟩
            rw [HE1.out] at HF
            clear hA
            go_enter Try.func24, Try.ntmps24
            go_wp2
            go_returns
            exact HF.out
          · have hb : (((o9 : Nat) : Int) == 0) = false := by rw [beq_eq_false_iff_ne]; omega
            obtain ⟨i, rfl⟩ : ∃ i, o9 = i + 1 := ⟨o9 - 1, by omega⟩
            clear hA
            have hnode : i < (nodesN d).length ∧ ((vn : Nat) : Int) ∈ ((nodesN d).getD i node0).vars := ofK_some HO9.out.symm
            obtain ⟨hil, hvi⟩ := hnode
            have hil2 : (i : Int) ≤ 3000 := by have := HLEN.out; omega
            rw [show (((i + 1 : Nat)) : Int) = (i : Int) + 1 by omega] at cof hb
            obtain ⟨g, cap, hnv, z1, z2, q0, q1, q2⟩ := HS1.out.wk.node hil
            subst hnv
            obtain ⟨x, hx⟩ : ∃ x, x = (nodesN d).getD i node0 := ⟨_, rfl⟩
            have hxn : isNode d x := by rw [hx]; exact isNode_at hil
            rw [← hx] at q0 q1 q2 hvi
            have HX := Lib.hid hx
            have HIL := Lib.hid hil
            have HVI := Lib.hid hvi
            have hfr := topo_from HS1.out.wk HL0.out HS.out hxn
            obtain ⟨n9, hn9⟩ : ∃ n, n = (nodesN d).length := ⟨_, rfl⟩
            have hin9 : (i : Int) < (n9 : Int) := by omega
            rw [← hn9] at z1 c9
            obtain ⟨rd, hrd⟩ : ∃ r, r = x.read := ⟨_, rfl⟩
            obtain ⟨xm, hxm⟩ : ∃ r, r = x.mem := ⟨_, rfl⟩
            obtain ⟨xp, hxp⟩ : ∃ r, r = x.pos := ⟨_, rfl⟩
            rw [← hrd] at q0
            rw [← hxm] at q1
            rw [← hxp] at q2
            have hnV : nodeV x = .agg #[.bool rd, .int .i64 xm, .int .i64 xp] := by rw [hrd, hxm, hxp]; rfl
            rw [hnV] at hfr
            have hfrq : ∀ n, Calls Try.prog 25 #[.pointer (some ⟨bw, 0, none⟩), .agg #[.bool rd, .int .i64 xm, .int .i64 xp]] (W1.drewN n) (RetN w0.heap.size (W1.drewN n) x.frm) := fun n => by
              have h1 := topo_from (HS1.out.wk.below (below_drewN (Below.refl _ W1) n)) HL0.out HS.out hxn
              rw [hnV] at h1
              exact h1
            have CK : Hid (∀ W', Below W1.heap.size W1 W' → W'.cell? ⟨bp, 0, none⟩ = some (.pointer (some ⟨bw, 0, none⟩)) ∧ W'.cell? ⟨bw, 9, none⟩ = some (.slice (some ⟨g, 0, none⟩) n9 cap) ∧ W'.cell? ⟨bw, 8, none⟩ = some (.slice (some ⟨bo, 0, none⟩) (V + 1) (V + 1)) ∧ W'.cell? ⟨bo, vn, none⟩ = some (.int .i64 ((i : Int) + 1)) ∧ W'.cell? ⟨g, i * 3, none⟩ = some (.bool rd) ∧ W'.cell? ⟨g, i * 3 + 1, none⟩ = some (.int .i64 xm) ∧ W'.cell? ⟨g, i * 3 + 2, none⟩ = some (.int .i64 xp)) := Lib.hid fun W' hb => by
              rw [← HE1.out] at c8 c9 cp cof
              exact ⟨cell_below cp hb, cell_below c9 hb, cell_below c8 hb, cell_below cof hb, cell_below q0 hb, cell_below q1 hb, cell_below q2 hb⟩
            rw [HE1.out] at q0 q1 q2 hfrq
            have HFR := Lib.hid hfrq
            have HE := Lib.hid (show cntB V (set1 m vn) < N from by
              have := cntB_lt (V := V) (m := m) (m' := set1 m vn) (v := vn) (fun u hu => by unfold set1; split; rfl; exact hu) (by omega) HQ.out.symm (by simp [set1])
              have := HCN.out
              omega)
            clear hx hil hvi hfr hn9 hrd hxm hxp hnV hfrq hxn
            have hwr : IntKind.i64.wrap ((i : Int) + 1 - 1) = (i : Int) := by rw [show (i : Int) + 1 - 1 = (i : Int) by omega]; exact IntWalk.i64_in _ (by omega)
            have hwr2 : IntKind.i64.wrap (i : Int) = (i : Int) := IntWalk.i64_in _ (by omega)
            have hi0 : 0 ≤ (i : Int) := by omega
            go_enter Try.func24, Try.ntmps24
            go_wp2
            go_region_held3 (fun w' => w'.cell? ⟨bp, 0, none⟩ = some (.pointer (some ⟨bw, 0, none⟩)) ∧ w'.cell? ⟨bw, 9, none⟩ = some (.slice (some ⟨g, 0, none⟩) n9 cap) ∧ w'.cell? ⟨bw, 8, none⟩ = some (.slice (some ⟨bo, 0, none⟩) (V + 1) (V + 1)) ∧ w'.cell? ⟨bo, vn, none⟩ = some (.int .i64 ((i : Int) + 1)) ∧ w'.cell? ⟨g, i * 3, none⟩ = some (.bool rd) ∧ w'.cell? ⟨g, i * 3 + 1, none⟩ = some (.int .i64 xm) ∧ w'.cell? ⟨g, i * 3 + 2, none⟩ = some (.int .i64 xp)) (go_keep) (first
              | (go_at_call 25; refine (HFR.out 1).mono ?_; rintro e w5 ⟨u5, rfl, hi8, hb8, hp8⟩; obtain ⟨A8, cc8, rfl, -, z8, z9, -⟩ := id hi8; obtain ⟨g1, g2, g3, g4, g5, g6, g7⟩ := CK.out w5 ((below_drewN (Below.refl _ W1) 1).trans (by rw [HE1.out]; exact hb8))))
            clear g1 g2 g3 g4 g5 g6 g7
            rw [← HE1.out] at hb8 hp8
            obtain ⟨fs, hfs⟩ : ∃ fs, fs = x.frm := ⟨_, rfl⟩
            obtain ⟨nf, hnf⟩ : ∃ nf, nf = fs.length := ⟨_, rfl⟩
            rw [← hfs] at hi8 z8 hp8
            rw [← hnf] at hi8 z8 hp8
            rw [← hfs, ← hnf]
            unfold maxLen at z9
            have HI8 := Lib.hid hi8
            have hB5 : Below W1.heap.size W1 w5 := (below_drewN (Below.refl _ W1) 1).trans hb8
            have HS5 := Lib.hid (HS1.out.below hB5)
            have HNF := Lib.hid hnf
            have HP8 : Hid (fs ≠ [] → ∀ k, (Value.slice A8 nf cc8).ownBlock = some k → ¬ k = bg) := Lib.hid fun hne k hk e => by
              have h1 : k < w0.heap.size ∨ W1.heap.size ≤ k := hp8 hne k hk
              have h2 := HS1.out.far.1
              have h3 := HS1.out.ins.lt
              omega
            have HFS : Hid (fs = ((nodesN d).getD i node0).frm) := Lib.hid (by rw [hfs, HX.out])
            have HC5 : Hid (Chg (fun k => k = bg) W w5) := Lib.hid (HC1.out.trans (Chg.of_below (S := fun k => k = bg) hB5) (fun i hi => .inl hi))
            have HFN : Hid (∀ y ∈ fs, 0 ≤ y ∧ y ≤ 2 * (V : Int) + 1) := Lib.hid (by rw [HFS.out]; exact HOK.out.frng i HIL.out)
            clear hi8 hb8 hp8 hfs hnf HFR hB5 hwr hwr2 q0 q1 q2 c8 c9 cp cof cin fin ci c0 hb
            go_wp2
            go_loopw [7, 50] (fun _ c wr => ∃ j : Nat, ∃ m2 : Int → Bool, j ≤ nf ∧ c = .int .i64 j ∧ AddI (nodesN d) V m m2 vn (fs.take j) ∧ Sp w0 d V vi vl vo vb vc vm va bw bo bm bl (.slice (some ⟨g, 0, none⟩) (nodesN d).length cap) m9 lv9 bx bi bp ba bg m2 wr ∧ Chg (fun k => k = bg) w5 wr) (fun _ c _ => nf - (intOf c).toNat)
            case atStart => exact ⟨0, _, Nat.zero_le _, rfl, AddI.start (by omega) (by omega), HS5.out, Chg.refl _ _⟩
            case round =>
              obtain ⟨j, m2, hj, rfl, hai, hsp, hC⟩ := hrel
              have HAI := Lib.hid hai
              have HSP := Lib.hid hsp
              have HC := Lib.hid hC
              have ca : wr.cell? ⟨ba, 0, none⟩ = some (.func (.func 24) #[] #[.pointer (some ⟨bx, 0, none⟩), .pointer (some ⟨bi, 0, none⟩), .pointer (some ⟨bp, 0, none⟩), .pointer (some ⟨ba, 0, none⟩)]) := hsp.adb.cell 0
              clear hai hsp hC
              by_cases hlt : (j : Int) < (nf : Int)
              · have hjn : j < fs.length := by have := HNF.out; omega
                have hI2 := ints_keep HI8.out HC.out HP8.out
                obtain ⟨-, hii⟩ := ints_hii hI2
                obtain ⟨b, off, rfl, hcs⟩ := hii.resolve_left (fun e => by rw [e] at hjn; simp at hjn)
                have q := hcs j hjn
                have hyr := HFN.out (fs.getD j 0) (mem_getD 0 hjn)
                have hym := mem_getD 0 hjn
                have hts := take_snocI hjn
                obtain ⟨y, hy⟩ : ∃ y, y = fs.getD j 0 := ⟨_, rfl⟩
                rw [← hy] at q hyr hts hym
                have hvar := litsVar_q y
                have hIH := HIH.out m2 (y / 2) wr.drew (Nat.lt_of_le_of_lt (cntB_le HAI.out.sup) HE.out) (by omega) (by omega) (HSP.out.below (Below.refl _ _).drew)
                have HVAR := Lib.hid hvar
                have HREC := Lib.hid hIH
                have HTS := Lib.hid hts
                have HYM := Lib.hid hym
                clear hcs hii hts hy hjn hvar hIH hI2 hym
                go_wp2
                go_region_held3 (fun w' => w'.cell? ⟨ba, 0, none⟩ = some (.func (.func 24) #[] #[.pointer (some ⟨bx, 0, none⟩), .pointer (some ⟨bi, 0, none⟩), .pointer (some ⟨bp, 0, none⟩), .pointer (some ⟨ba, 0, none⟩)])) (go_keep) (first
                  | (go_at_call 26; refine (HVAR.out _).mono ?_; rintro e w' ⟨rfl, rfl⟩)
                  | (go_at_call 24; refine HREC.out.mono ?_; rintro e w9 ⟨rfl, hc9, m3, ha3, hs3⟩; have HC9 := Lib.hid hc9; have HA3 := Lib.hid ha3; have HS3 := Lib.hid hs3; have ca9 := HS3.out.adb.cell 0; clear hc9 ha3 hs3))
                clear ca ca9 q
                go_wp2
                go_roundw
                case rel =>
                  refine ⟨j + 1, m3, by omega, by go_num, ?_, HS3.out, (HC.out.drew).trans HC9.out (fun i hi => .inl hi)⟩
                  rw [HTS.out]
                  exact HAI.out.step HOK.out HIL.out (by rw [← HX.out]; exact HVI.out) (by rw [← HFS.out]; exact HYM.out) (by omega) (by omega) HA3.out
                case measure => simp [intOf]; omega
              · obtain rfl : j = nf := by omega
                have hfull : fs.take j = fs := List.take_of_length_le (by have := HNF.out; omega)
                have HF : Hid (AddR w0 d V vi vl vo vb vc vm va bw bo bm bl (.slice (some ⟨g, 0, none⟩) (nodesN d).length cap) m9 lv9 bx bi bp ba bg m vn W (.returned (.tuple #[])) wr) := Lib.hid (by
                  refine ⟨rfl, HC5.out.trans HC.out (fun i hi => .inl hi), m2, ?_, HSP.out⟩
                  have h1 := HAI.out
                  rw [hfull, HFS.out] at h1
                  exact h1.done HOK.out HIL.out (by rw [← HX.out]; exact HVI.out))
                clear hfull ca
                go_wp2
                go_returns
                exact HF.out
end Go.Proofs.Ytgnimegdgphlmaa
