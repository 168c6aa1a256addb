/-
  Package rup: what holds whatever is asked, walked.
-/
import Derived.Test.YtknpfopepedmmaaRuS
namespace Go.Proofs.Ytknpfopepedmmaa
open Go Go.ChangeShapes Go.WideShapes Go.ChangeAt Go.RowKit Go.Maps
set_option linter.unusedVariables false
set_option linter.unusedSimpArgs false
section
variable {w : World} {r : Nat} {S : RS} {vl vt : Value} {bt bo bm nt no nm : Nat} {us : List Value} {ho : Int → Option (Option (Nat × Nat × Nat))}
theorem KP.field (h : KP w r S vl vt bt bo bm nt no nm us ho) {c : Nat} {u : Value} {S' : RS} (e1 : S'.cl = S.cl) (e2 : S'.on = S.on) (e3 : S'.tr = S.tr)
    (hb : Blk (w.setCell ⟨r, c, none⟩ u) r 72 #[vl, .map (some bt), .map (some bo), .map (some bm), vt, .int .i64 (S'.base : Nat), .int .i64 S'.bk]) : KP (w.setCell ⟨r, c, none⟩ u) r S' vl vt bt bo bm nt no nm us ho := by
  have hc : Chg (fun k => k = r) w (w.setCell ⟨r, c, none⟩ u) := (Chg.refl (fun k => k = r) w).setCell (p := ⟨r, c, none⟩) (.inl rfl) u
  obtain ⟨d1, d2, d3, -, -, -⟩ := h.d
  have eT : S'.T = S.T := by unfold RS.T; rw [e3]
  have eo : onF S' = onF S := by unfold onF RS.onA; rw [e2]
  have em : markF S' = markF S := by unfold markF; rw [e3]
  have ef : ∀ x, S'.ofL x = S.ofL x := fun x => by unfold RS.ofL RS.c; rw [e1]
  refine ⟨hb, by rw [e1]; exact h.l.chg hc (fun g hg e => (h.sl g hg).1 e), by rw [e1]; exact h.c.chg hc (fun g _ e => .inl e), by rw [eo]; exact h.t.chg hc (fun e => d1 e.symm), h.o.chg hc (fun e => d2 e.symm), fun x => by rw [ef]; exact (h.of x).chg hc (fun g hg e => (h.sh g ⟨x, hg⟩).1 e), by rw [em]; exact h.m.chg hc (fun e => d3 e.symm), by rw [eT, e3]; exact h.tr.chg hc (fun g hg e => (h.st g hg).1 e), h.d, h.sl, h.st, h.sh, h.sx⟩
theorem KP.setBk (h : KP w r S vl vt bt bo bm nt no nm us ho) (b : Int) : KP (w.setCell ⟨r, 6, none⟩ (.int .i64 b)) r { S with bk := b } vl vt bt bo bm nt no nm us ho := h.field (S' := { S with bk := b }) rfl rfl rfl (h.b.set_ 6 (.int .i64 b))
theorem KP.setBase (h : KP w r S vl vt bt bo bm nt no nm us ho) (b : Nat) : KP (w.setCell ⟨r, 5, none⟩ (.int .i64 (b : Nat))) r { S with base := b } vl vt bt bo bm nt no nm us ho := h.field (S' := { S with base := b }) rfl rfl rfl (h.b.set_ 5 (.int .i64 (b : Nat)))
/-- Both fields behind a spread. -/
theorem AsgQ.fin {w1 : World} {R : RS} {id : Int} {vt1 : Value} {nm1 : Nat} (hk : KP w1 r R vl vt1 bt bo bm nt no nm1 us ho) (hc : Chg (fun k => k = r ∨ k = bm ∨ vt.ownBlock = some k) w w1) (ho1 : vt1.ownBlock = vt.ownBlock ∨ ∃ g, vt1.ownBlock = some g ∧ w.heap.size ≤ g) :
    AsgQ w r (R.fin id) vl vt bt bo bm nt no us ho ((w1.setCell ⟨r, 6, none⟩ (.int .i64 id)).setCell ⟨r, 5, none⟩ (.int .i64 (R.tr.length : Nat))) :=
  ⟨vt1, nm1, (hk.setBk id).setBase R.tr.length, (hc.setCell (p := ⟨r, 6, none⟩) (.inl (.inl rfl)) _).setCell (p := ⟨r, 5, none⟩) (.inl (.inl rfl)) _, ho1⟩
theorem KP.trForm (h : KP w r S vl vt bt bo bm nt no nm us ho) : ∃ a c, vt = .slice a S.tr.length c := by
  rcases h.tr.form with ⟨e, e0, -⟩ | ⟨g, cap, e, -⟩
  · exact ⟨none, 0, by rw [e, e0]⟩
  · exact ⟨_, _, e⟩
set_option maxHeartbeats 4000000 in
set_option maxRecDepth 100000 in
theorem settle_ {A : List Int} (h : KP w r S vl vt bt bo bm nt no nm us ho) (hI : RInv S A) (hcl : S.cl.length ≤ 1000000) {i : Nat} (hi : i < S.cl.length) (hon : S.onA i = true) :
    Calls Try.prog 38 #[kp r, .int .i64 (i : Nat)] w fun e w' => e = .returned (.tuple #[]) ∧ AsgQ w r (S.settle i) vl vt bt bo bm nt no us ho w' := by
  obtain ⟨R, hR⟩ : ∃ R, R = S.settle i := ⟨_, rfl⟩
  rw [← hR]
  have c6 : w.cell? ⟨r, 6, none⟩ = some (.int .i64 S.bk) := h.b.cell 6
  by_cases hb : S.bk ≠ -1
  · have HF : Hid (AsgQ w r R vl vt bt bo bm nt no us ho w) := Lib.hid (by rw [hR, RS.settle, if_pos hb]; exact h.asgQ)
    have hb2 : (S.bk != -1) = true := by rw [bne_iff_ne]; exact hb
    clear h hI hcl hi hon hR hb
    go_enter Try.func38, Try.ntmps38
    go_wp2
    go_returns
    exact ⟨rfl, HF.out⟩
  · have hbe : S.bk = -1 := Decidable.byContradiction hb
    have hb2 : (S.bk != -1) = false := by rw [hbe]; rfl
    rw [RS.settle, if_neg hb] at hR
    obtain ⟨gl, cl, au, cu, hvl, qu, hu⟩ := us_at h hi
    obtain ⟨c1, c2⟩ := hI.c0 i hi
    have c0 : w.cell? ⟨r, 0, none⟩ = some vl := h.b.cell 0
    have HLK := Lib.hid (look_ h hI.con hu c1 c2)
    have HK := Lib.hid h
    have HI := Lib.hid hI
    have HRR := Lib.hid hR
    have HII := Lib.hid hi
    have HON := Lib.hid hon
    have HCL := Lib.hid hcl
    obtain ⟨n2, hn2⟩ : ∃ n, n = S.cl.length := ⟨_, rfl⟩
    rw [hvl, ← hn2] at c0
    have hlen3 : (i : Int) < (n2 : Int) := by omega
    have hi9 : i < 1000000 := by omega
    obtain ⟨nu, hnu⟩ : ∃ n, n = (S.c i).length := ⟨_, rfl⟩
    rw [← hnu] at qu HLK
    obtain ⟨tl, htl⟩ : ∃ tl, tl = telR (S.c i) S.T := ⟨_, rfl⟩
    obtain ⟨fl, hfl⟩ : ∃ fl, fl = falR (S.c i) S.T := ⟨_, rfl⟩
    rw [← htl, ← hfl] at HLK
    have HTL := Lib.hid htl
    have HFL := Lib.hid hfl
    obtain ⟨bk, hbk⟩ : ∃ bk, bk = S.bk := ⟨_, rfl⟩
    rw [← hbk] at c6 hb2
    clear h hI hcl hi hon hR hb hbe hn2 hnu hu c1 c2 htl hfl hvl hbk
    go_enter Try.func38, Try.ntmps38
    go_wp2_with fail
    refine HLK.out.mono ?_
    rintro e w1 ⟨rfl, hb1⟩
    have hk1 := HK.out.below hb1
    have HK1 := Lib.hid hk1
    have HC1 : Hid (Chg (fun k => k = r ∨ k = bm ∨ vt.ownBlock = some k) w w1) := Lib.hid (Chg.of_below hb1)
    clear hb1 qu c0 c6
    cases fl with
    | true =>
      have d6 : w1.cell? ⟨r, 6, none⟩ = some (.int .i64 S.bk) := hk1.b.cell 6
      have f6 := hk1.b.frozen 6
      have HF : Hid (AsgQ w r R vl vt bt bo bm nt no us ho (w1.setCell ⟨r, 6, none⟩ (.int .i64 (i : Nat)))) := Lib.hid (by
        have e := HRR.out
        rw [if_pos HFL.out.symm] at e
        rw [e]
        exact ⟨vt, nm, HK1.out.setBk (i : Int), HC1.out.setCell (p := ⟨r, 6, none⟩) (.inl (.inl rfl)) _, .inl rfl⟩)
      clear hk1
      go_wp2
      go_returns
      exact ⟨rfl, HF.out⟩
    | false =>
      by_cases ht : tl = 0
      · have HE : Hid (R = S.all_ S.base) := Lib.hid (by
          have e := HRR.out
          rw [if_neg (by rw [← HFL.out]; decide), if_neg (by rw [← HTL.out, ht]; decide)] at e
          exact e)
        have HSP := Lib.hid (spread_ HK1.out HI.out HCL.out HI.out.base (f := fuel) (by unfold fuel; omega))
        have d5 : w1.cell? ⟨r, 5, none⟩ = some (.int .i64 (S.base : Nat)) := hk1.b.cell 5
        obtain ⟨bs, hbs⟩ : ∃ bs, bs = S.base := ⟨_, rfl⟩
        rw [← hbs] at d5 HSP
        subst ht
        have HBS := Lib.hid hbs
        clear hk1 hbs
        obtain ⟨SX, hSX⟩ : ∃ SX, SX = S := ⟨_, rfl⟩
        rw [← hSX] at HSP HE HBS
        clear hSX
        go_wp2_with fail
        refine HSP.out.mono ?_
        rintro e w3 ⟨rfl, hq⟩
        obtain ⟨vt2, nm2, hk2, hc2, ho2⟩ := AsgQ.trans HK1.out HC1.out (.inl rfl) hq
        obtain ⟨X, hX⟩ : ∃ X, X = RS.spread fuel SX bs := ⟨_, rfl⟩
        rw [← hX] at hk2 ⊢
        have HF : Hid (AsgQ w r R vl vt bt bo bm nt no us ho ((w3.setCell ⟨r, 6, none⟩ (.int .i64 X.2)).setCell ⟨r, 5, none⟩ (.int .i64 (X.1.tr.length : Nat)))) := Lib.hid (by
          rw [HE.out, RS.all_, ← HBS.out, ← hX]
          exact AsgQ.fin hk2 hc2 ho2)
        obtain ⟨a2, c2, hv2⟩ := hk2.trForm
        have d4 : w3.cell? ⟨r, 4, none⟩ = some vt2 := hk2.b.cell 4
        have d6 : w3.cell? ⟨r, 6, none⟩ = some (.int .i64 X.1.bk) := hk2.b.cell 6
        have f6 := hk2.b.frozen 6
        have d5 : w3.cell? ⟨r, 5, none⟩ = some (.int .i64 (X.1.base : Nat)) := hk2.b.cell 5
        have f5 := hk2.b.frozen 5
        rw [hv2] at d4
        clear hk2 hc2 ho2 hq hv2 hX
        go_wp2
        go_returns
        exact ⟨rfl, HF.out⟩
      · have hne : telR (S.c i) S.T ≠ 0 := by rw [← HTL.out]; exact ht
        have HE0 : Hid (R = (S.asg tl (i : Int)).all_ S.base) := Lib.hid (by
          have e := HRR.out
          rw [if_neg (by rw [← HFL.out]; decide), if_pos hne, ← HTL.out] at e
          exact e)
        obtain ⟨t1, t2, t3⟩ := tel_ne (HI.out.nz HII.out) hne
        have HI4 : Hid (RInv (S.asg tl (i : Int)) A) := Lib.hid (by rw [HTL.out]; exact asg_inv HI.out HII.out HON.out hne)
        have HAS := Lib.hid (assign_ HK1.out HI.out.con (l := tl) (b := (i : Int)) (by rw [HTL.out]; exact (HI.out.c0 i HII.out).1 _ t1) (by rw [HTL.out]; exact t2))
        have hh : (tl != 0) = true := by rw [bne_iff_ne]; exact ht
        obtain ⟨SX, hSX⟩ : ∃ SX, SX = S.asg tl (i : Int) := ⟨_, rfl⟩
        obtain ⟨bs, hbs⟩ : ∃ bs, bs = SX.base := ⟨_, rfl⟩
        rw [← hSX] at HI4 HAS HE0
        have HE : Hid (R = SX.all_ SX.base) := Lib.hid (by rw [HE0.out, hSX]; rfl)
        have HBS := Lib.hid hbs
        have HCX : Hid (SX.cl.length ≤ 1000000) := Lib.hid (by rw [hSX]; exact HCL.out)
        clear t1 t2 t3 hne hk1 hbs hSX
        go_wp2_with fail
        refine HAS.out.mono ?_
        rintro e w2 ⟨rfl, vt1, nm1, hk2, hc2, ho2⟩
        have d5 : w2.cell? ⟨r, 5, none⟩ = some (.int .i64 (SX.base : Nat)) := hk2.b.cell 5
        have HSP := Lib.hid (spread_ hk2 HI4.out HCX.out HI4.out.base (f := fuel) (by unfold fuel; omega))
        rw [← HBS.out] at d5 HSP
        have HK2 := Lib.hid hk2
        have HC2 : Hid (Chg (fun k => k = r ∨ k = bm ∨ vt.ownBlock = some k) w w2) := Lib.hid (HC1.out.trans hc2 (fun i hi => .inl hi))
        have HO2 : Hid (vt1.ownBlock = vt.ownBlock ∨ ∃ g, vt1.ownBlock = some g ∧ w.heap.size ≤ g) := Lib.hid (by
          rcases ho2 with o | ⟨g, o, hg⟩
          · exact .inl o
          · exact .inr ⟨g, o, Nat.le_trans HC1.out.size hg⟩)
        clear hk2 hc2 ho2
        go_wp2_with fail
        refine HSP.out.mono ?_
        rintro e w3 ⟨rfl, hq⟩
        obtain ⟨vt2, nm2, hk2, hc2, ho2⟩ := AsgQ.trans HK2.out HC2.out HO2.out hq
        obtain ⟨X, hX⟩ : ∃ X, X = RS.spread fuel SX bs := ⟨_, rfl⟩
        rw [← hX] at hk2 ⊢
        have HF : Hid (AsgQ w r R vl vt bt bo bm nt no us ho ((w3.setCell ⟨r, 6, none⟩ (.int .i64 X.2)).setCell ⟨r, 5, none⟩ (.int .i64 (X.1.tr.length : Nat)))) := Lib.hid (by
          rw [HE.out, RS.all_, ← HBS.out, ← hX]
          exact AsgQ.fin hk2 hc2 ho2)
        obtain ⟨a2, c2, hv2⟩ := hk2.trForm
        have d4 : w3.cell? ⟨r, 4, none⟩ = some vt2 := hk2.b.cell 4
        have d6 : w3.cell? ⟨r, 6, none⟩ = some (.int .i64 X.1.bk) := hk2.b.cell 6
        have f6 := hk2.b.frozen 6
        have d5 : w3.cell? ⟨r, 5, none⟩ = some (.int .i64 (X.1.base : Nat)) := hk2.b.cell 5
        have f5 := hk2.b.frozen 5
        rw [hv2] at d4
        clear hk2 hc2 ho2 hq hv2 hX
        go_wp2
        go_returns
        exact ⟨rfl, HF.out⟩
end
end Go.Proofs.Ytknpfopepedmmaa
