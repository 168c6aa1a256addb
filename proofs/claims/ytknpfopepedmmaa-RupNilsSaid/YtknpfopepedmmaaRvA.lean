/-
  Package rup: again, walked.
-/
import Derived.Test.YtknpfopepedmmaaRuZ
namespace Go.Proofs.Ytknpfopepedmmaa
open Go Go.ChangeShapes Go.WideShapes Go.ChangeAt Go.RowKit Go.Maps
set_option linter.unusedVariables false
set_option linter.unusedSimpArgs false
section
variable {w : World} {r : Nat} {S : RS} {vl vt : Value} {bt bo bm nt no nm : Nat} {us : List Value} {ho : (Int → Option (Option (Nat × Nat × Nat)))}
/-- All that holds is forgotten; a new map. -/
theorem KP.fresh (h : KP w r S vl vt bt bo bm nt no nm us ho) : AsgQ (w.alloc (.map #[] 0)) r S.wipe vl (.slice none 0 0) bt bo w.heap.size nt no us ho (((((w.alloc (.map #[] 0)).setCell ⟨r, 3, none⟩ (.map (some w.heap.size))).setCell ⟨r, 4, none⟩ (.slice none 0 0)).setCell ⟨r, 5, none⟩ (.int .i64 0)).setCell ⟨r, 6, none⟩ (.int .i64 (-1))) := by
  have hb1 : Below w.heap.size w (w.alloc (.map #[] 0)) := (Below.refl _ w).alloc (Nat.le_refl _) _
  have h1 := h.below hb1
  have hc : Chg (fun k => k = r) (w.alloc (.map #[] 0)) (((((w.alloc (.map #[] 0)).setCell ⟨r, 3, none⟩ (.map (some w.heap.size))).setCell ⟨r, 4, none⟩ (.slice none 0 0)).setCell ⟨r, 5, none⟩ (.int .i64 0)).setCell ⟨r, 6, none⟩ (.int .i64 (-1))) := ((((Chg.refl (fun k => k = r) _).setCell (p := ⟨r, 3, none⟩) (.inl rfl) _).setCell (p := ⟨r, 4, none⟩) (.inl rfl) _).setCell (p := ⟨r, 5, none⟩) (.inl rfl) _).setCell (p := ⟨r, 6, none⟩) (.inl rfl) _
  have hr := h.b.lt
  have hbt := h.t.lt
  have hbo := h.o.lt
  obtain ⟨d1, d2, d3, d4, d5, d6⟩ := h.d
  refine ⟨.slice none 0 0, 0, ⟨?_, h1.l.chg hc (fun g hg e => (h1.sl g hg).1 e), ?_, h1.t.chg hc (fun e => d1 e.symm), h1.o.chg hc (fun e => d2 e.symm), fun x => (h1.of x).chg hc (fun g hg e => (h1.sh g ⟨x, hg⟩).1 e), ?_, World.ownsRow_nil _ _ _ _, ⟨d1, d2, by omega, d4, by omega, by omega⟩, fun g hg => ?_, fun g hg => by simp [Value.ownBlock] at hg, fun g hg => ?_, h.sx⟩, hc.mono (fun g hg => .inl hg), .inl rfl⟩
  · exact ((((h1.b.set_ 3 _).set_ 4 _).set_ 5 _).set_ 6 _)
  · refine ((h.c.mono (S' := KS r bt bo w.heap.size vl (.slice none 0 0) ho) fun g hg hk => ?_).below hb1).chg hc (fun g _ e => .inl e)
    rcases hk with e | e | e | e | e | e | e
    · exact .inl e
    · exact .inr (.inl e)
    · exact .inr (.inr (.inl e))
    · omega
    · exact .inr (.inr (.inr (.inr (.inl e))))
    · simp [Value.ownBlock] at e
    · exact .inr (.inr (.inr (.inr (.inr (.inr e)))))
  · have e : markF S.wipe = fun _ => none := by funext x; simp [markF, RS.wipe]
    rw [e]
    exact (MapF.made eMark w).chg hc (fun e => by omega)
  · obtain ⟨a1, a2, a3, a4, a5⟩ := h.sl g hg
    exact ⟨a1, a2, a3, by have := h.l.lt g hg; omega, by simp [Value.ownBlock]⟩
  · obtain ⟨a1, a2, a3, a4, a5, a6⟩ := h.sh g hg
    obtain ⟨x, hx⟩ := hg
    exact ⟨a1, a2, a3, by have := (h.of x).lt g hx; omega, a5, by simp [Value.ownBlock]⟩
set_option maxHeartbeats 4000000 in
set_option maxRecDepth 100000 in
theorem again_ (h : KP w r S vl vt bt bo bm nt no nm us ho) (hl : S.on.length = S.cl.length) (hcl : S.cl.length ≤ 1000000) (h0 : ∀ i, i < S.cl.length → Lit30s (S.c i) ∧ (S.c i).Nodup) :
    Calls Try.prog 45 #[kp r] w fun e w' => e = .returned (.tuple #[]) ∧ AsgQ (w.alloc (.map #[] 0)) r (S.againN S.cl.length) vl (.slice none 0 0) bt bo w.heap.size nt no us ho w' := by
  have hmm := @run_makeMap Try.prog
  obtain ⟨al, cl, hvl⟩ : ∃ a c, vl = .slice a S.cl.length c := by
    rcases h.l.form with ⟨e, e0, -⟩ | ⟨g, cap, e, -⟩
    · exact ⟨none, 0, by rw [e, e0]⟩
    · exact ⟨_, _, e⟩
  have c0 : w.cell? ⟨r, 0, none⟩ = some vl := h.b.cell 0
  have c3 : w.cell? ⟨r, 3, none⟩ = some (.map (some bm)) := h.b.cell 3
  have c4 : w.cell? ⟨r, 4, none⟩ = some vt := h.b.cell 4
  have c5 : w.cell? ⟨r, 5, none⟩ = some (.int .i64 (S.base : Nat)) := h.b.cell 5
  have c6 : w.cell? ⟨r, 6, none⟩ = some (.int .i64 S.bk) := h.b.cell 6
  have f3 := h.b.frozen 3
  have f4 := h.b.frozen 4
  have f5 := h.b.frozen 5
  have f6 := h.b.frozen 6
  obtain ⟨m, hm⟩ : ∃ m, m = S.cl.length := ⟨_, rfl⟩
  rw [hvl, ← hm] at c0
  have hlt := h.b.lt
  have HK := Lib.hid h
  have HM := Lib.hid hm
  have HL0 := Lib.hid hl
  have HC0 := Lib.hid hcl
  have H00 := Lib.hid h0
  have HVL := Lib.hid hvl
  have hm9 : m ≤ 1000000 := by omega
  clear h hl hcl h0 hm hvl
  go_enter Try.func45, Try.ntmps45
  go_wp2_with fail
  go_loopw [21] (fun i wr => ∃ k : Nat, k ≤ m ∧ i = .int .i64 (k : Nat) ∧ AsgQ (w.alloc (.map #[] 0)) r (S.againN k) vl (.slice none 0 0) bt bo w.heap.size nt no us ho wr) (fun i _ => m - (intOf i).toNat)
  case atStart =>
    refine ⟨0, Nat.zero_le _, rfl, ?_⟩
    have h5 := HK.out.fresh
    simp only [World.setCell_alloc_past _ _ _ _ hlt] at h5
    rw [World.setCell_alloc_past _ _ _ _ (by simpa using hlt), World.setCell_alloc_past _ _ _ _ (by simpa using hlt), World.setCell_alloc_past _ _ _ _ (by simpa using hlt)] at h5
    exact h5
  case round =>
    obtain ⟨k, hk, rfl, hR⟩ := hrel
    obtain ⟨vt2, nm2, hK2, hc2, ho2⟩ := hR
    have HK2 := Lib.hid hK2
    have HC2 := Lib.hid hc2
    have HO2 := Lib.hid ho2
    by_cases hk2 : (k : Int) < (m : Int)
    · have q1 : wr.cell? ⟨r, 1, none⟩ = some (.map (some bt)) := hK2.b.cell 1
      have hlk := hK2.t.look tmB (x := (k : Int)) ⟨by omega, by omega⟩
      obtain ⟨bb, hbb⟩ : ∃ bb, bb = (S.againN k).onA k := ⟨_, rfl⟩
      have HBB := Lib.hid hbb
      have e1 : (onF (S.againN k) (k : Int)).getD false = bb := by
        unfold onF
        rw [hbb]
        cases hq : (S.againN k).onA k <;> simp [hq]
      replace hlk : (Instr.lookup 68 (.map (some bt)) (.int .i64 (k : Nat)) false).run Try.prog wr = .ok (.bool ((onF (S.againN k) (k : Int)).getD false)) wr := hlk
      rw [e1] at hlk
      have hal := again_law HL0.out H00.out k (by have := HM.out; omega)
      have HAL := Lib.hid hal
      clear hal e1 hK2 hc2 ho2
      cases bb with
      | true =>
        have hST := settle_ HK2.out HAL.out.1.inv (by rw [HAL.out.2.1]; have := HM.out; omega) (i := k) (by rw [HAL.out.2.1]; have := HM.out; omega) hbb.symm
        have HST := Lib.hid hST
        clear hbb hST
        go_wp2_with fail
        refine HST.out.mono ?_
        rintro e w5 ⟨rfl, vt5, nm5, hk5, hc5, ho5⟩
        have HA : Hid (AsgQ (w.alloc (.map #[] 0)) r (S.againN (k + 1)) vl (.slice none 0 0) bt bo w.heap.size nt no us ho w5) := Lib.hid (by
          rw [RS.againN, if_pos HBB.out.symm]
          exact AsgQ.trans HK2.out HC2.out HO2.out ⟨vt5, nm5, hk5, hc5, ho5⟩)
        clear hk5 hc5 ho5
        go_wp2
        go_roundw
        case rel => exact ⟨k + 1, by omega, by go_num, HA.out⟩
        case measure => simp [intOf]; omega
      | false =>
        have HA : Hid (AsgQ (w.alloc (.map #[] 0)) r (S.againN (k + 1)) vl (.slice none 0 0) bt bo w.heap.size nt no us ho wr) := Lib.hid (by
          rw [RS.againN, if_neg (by rw [← HBB.out]; decide)]
          exact ⟨vt2, nm2, HK2.out, HC2.out, HO2.out⟩)
        clear hbb
        go_wp2
        go_roundw
        case rel => exact ⟨k + 1, by omega, by go_num, HA.out⟩
        case measure => simp [intOf]; omega
    · have HE : Hid (k = m) := Lib.hid (by omega)
      clear hK2 hc2 ho2
      go_wp2
      go_returns
      refine ⟨rfl, ?_⟩
      have e := HE.out
      rw [← HM.out, ← e]
      exact ⟨vt2, nm2, HK2.out, HC2.out, HO2.out⟩
end
end Go.Proofs.Ytknpfopepedmmaa
