/-
  Package trace: Parse, walked.
-/
import Derived.Test.YtibinmabdidecaaGreatDoorTpT
namespace Go.Proofs.YtibinmabdidecaaGreatDoor
open Go.ChangeShapes Go.WideShapes Go.ChangeAt Go.RowKit
set_option linter.unusedVariables false
set_option linter.unusedSimpArgs false
/-- What is parsed, where it went wrong, how. -/
def resD : PRes → TrD
  | .ok d => d
  | _ => ⟨[], [], [], 0⟩
def resN : PRes → Nat
  | .bad n => n
  | _ => 0
def resF : PRes → Int
  | .bad _ => 2
  | .ill => 14
  | .ok _ => 0
def ParseQ (w : World) (p : PRes) (e : Ending) (w' : World) : Prop := Below w.heap.size w w' ∧ ∃ vl vm vi, e = .returned (.tuple #[trV (resD p) vl vm vi, .int .i64 (resN p : Nat), .int .i64 (resF p)]) ∧ TrP w' (resD p) vl vm vi
theorem TrP.nil (w : World) (k : Int) : TrP w ⟨[], [], [], k⟩ (.slice none 0 0) (.slice none 0 0) (.slice none 0 0) := ⟨Seq.nil _ _ _ _, Seq.nil _ _ _ _, Seq.nil _ _ _ _⟩
set_option maxHeartbeats 4000000 in
set_option maxRecDepth 100000 in
theorem trace_Parse {w : World} {s : List UInt8} (hm : MaxL w) (hL : Laid w) (hl : s.length ≤ 50000) :
    Calls Tryz.prog 6 #[.string (bs s)] w (ParseQ w (parseT s)) := by
  obtain ⟨g, hg⟩ : ∃ g, g = w.heap.size := ⟨_, rfl⟩
  obtain ⟨P, hP⟩ : ∃ P, P = parseT s := ⟨_, rfl⟩
  rw [← hP]
  obtain ⟨wA, hwA⟩ : ∃ wA, wA = (w.alloc (.cells #[.slice none 0 0, .slice none 0 0, .slice none 0 0, .int .i64 0] 29)).alloc (.cells #[.string (bs s), .int .i64 1] 41) := ⟨_, rfl⟩
  have hB0 : Below w.heap.size w wA := by rw [hwA]; exact ((Below.refl _ w).alloc (Nat.le_refl _) _).alloc (by simp) _
  have hTA : Blk wA g 29 #[.slice none 0 0, .slice none 0 0, .slice none 0 0, .int .i64 0] := by rw [hwA, hg]; exact (Blk.new w _ _).alloc _
  have hRA : RdAt wA (g + 1) s 1 := by
    have := Blk.new (w.alloc (.cells #[.slice none 0 0, .slice none 0 0, .slice none 0 0, .int .i64 0] 29)) 41 #[.string (bs s), .int .i64 1]
    rw [show (w.alloc (.cells #[.slice none 0 0, .slice none 0 0, .slice none 0 0, .int .i64 0] 29)).heap.size = w.heap.size + 1 by simp] at this
    rw [hwA, hg]
    exact this
  have h2 := hm.2
  have HT := Lib.hid (trace_ hRA (hm.below hB0) (hL.below hB0) ⟨by omega, by omega⟩ hl)
  rw [← hP] at HT
  have HB0 := Lib.hid hB0
  have HTA := Lib.hid hTA
  have HWA := Lib.hid hwA
  have HG := Lib.hid hg
  have HLA := Lib.hid (hL.below hB0)
  have HGN : Hid (0 < g) := Lib.hid (by omega)
  have HGA : Hid (g < wA.heap.size) := Lib.hid hTA.lt
  clear hm hL hP hg hwA hB0 hTA hRA h2
  generalize bs s = sv at *
  go_enter Tryz.func6, Tryz.ntmps6
  go_wp2_with fail
  rw [← HG.out, ← HWA.out]
  refine HT.out.mono ?_
  rintro e w1 ⟨hc, hor⟩
  have HC : Hid (Chg (fun k => k = g + 1) w w1) := Lib.hid ((Chg.of_below HB0.out).trans hc (fun i hi => .inl hi))
  have hT1 := HTA.out.chg hc (by omega)
  have HT1 := Lib.hid hT1
  have HL1 : Hid (Laid w1) := Lib.hid (HLA.out.chg hc (by omega))
  have hg1 : g < w1.heap.size := hT1.lt
  have HBW : Hid (Below w.heap.size w w1) := Lib.hid (HC.out.below (Nat.le_refl _) (fun i hi => by rw [hi, HG.out]; omega))
  obtain ⟨⟨c0, c1, c2, c3⟩, ⟨f0, f1, f2, f3⟩, s0, s1, s2, s3⟩ := hT1.all4
  clear hc hT1 HT HWA HTA HLA
  rcases hor with ⟨n, t, b, v, ⟨A1, n1, d1, A2, n2, d2, A3, n3, d3, rfl⟩, hp, rfl, hb⟩ | ⟨d, ord, vl, vm, vi, rfl, hTP, hp⟩
  · have HBD := Lib.hid hb
    have HP := Lib.hid hp
    obtain ⟨x, rfl⟩ := hb.iface
    clear hb hp
    obtain ⟨w2, hw2⟩ : ∃ w2, w2 = w1.alloc (.cells #[.slice A1 n1 d1, .slice A2 n2 d2, .slice A3 n3 d3, .int .i64 0] 29) := ⟨_, rfl⟩
    have hB2 : Below w1.heap.size w1 w2 := by rw [hw2]; exact (Below.refl _ w1).alloc (Nat.le_refl _) _
    have HB2 := Lib.hid hB2
    have HW2 := Lib.hid hw2
    have HIS := Lib.hid (Is_B (HBD.out.below hB2))
    have HTD := Lib.hid (Told_B (HL1.out.below hB2) (HBD.out.below hB2))
    clear hB2 hw2
    go_wp2_with fail
    rw [← HW2.out]
    refine HIS.out.mono ?_
    rintro e w2' ⟨rfl, rfl⟩
    go_wp2_with fail
    refine HTD.out.mono ?_
    rintro e w3 ⟨rfl, hb3⟩
    have hB3 : Below w1.heap.size w1 w3 := HB2.out.trans (hb3.mono HB2.out.size)
    have HB3 := Lib.hid hB3
    clear c0 c1 c2 c3 f0 f1 f2 f3 s0 s1 s2 s3 hb3
    obtain ⟨⟨c0, c1, c2, c3⟩, ⟨f0, f1, f2, f3⟩, s0, s1, s2, s3⟩ := (HT1.out.below hB3 HT1.out.lt).all4
    clear hB3
    go_wp2
    refine bodyPost_ret (v := .tuple #[.agg #[.slice none 0 0, .slice none 0 0, .slice none 0 0, .int .i64 0], .int .i64 n, .int .i64 2]) (by simp [results, Tryz.results6, go_sem, c0, c1, c2, c3]) rfl ?_
    refine ⟨HBW.out.trans (HB3.out.mono HBW.out.size), .slice none 0 0, .slice none 0 0, .slice none 0 0, by rw [HP.out]; rfl, ?_⟩
    rw [HP.out]
    exact TrP.nil _ _
  · have hTPW := hTP
    replace hTP := hTP w1 (Chg.refl _ _)
    have HTPW := Lib.hid hTPW
    clear hTPW
    obtain ⟨A1, d1, rfl⟩ := hTP.lat.len
    obtain ⟨A2, d2, rfl, -, -⟩ := hTP.mems.form
    obtain ⟨A3, d3, rfl, -, -⟩ := hTP.ins.form
    have HTP := Lib.hid hTP
    have HP := Lib.hid hp
    obtain ⟨n1, hn1⟩ : ∃ n, n = d.lat.length := ⟨_, rfl⟩
    obtain ⟨n2, hn2⟩ : ∃ n, n = d.mems.length := ⟨_, rfl⟩
    obtain ⟨n3, hn3⟩ : ∃ n, n = d.ins.length := ⟨_, rfl⟩
    obtain ⟨bad, hbad⟩ : ∃ n, n = d.bad := ⟨_, rfl⟩
    rw [← hn1, ← hn2, ← hn3] at HTP ⊢
    unfold trV
    rw [← hbad]
    obtain ⟨w2, hw2⟩ : ∃ w2, w2 = w1.alloc (.cells #[.slice A1 n1 d1, .slice A2 n2 d2, .slice A3 n3 d3, .int .i64 bad] 29) := ⟨_, rfl⟩
    have hB2 : Below w1.heap.size w1 w2 := by rw [hw2]; exact (Below.refl _ w1).alloc (Nat.le_refl _) _
    have hb2 : Blk w2 w1.heap.size 29 #[.slice A1 n1 d1, .slice A2 n2 d2, .slice A3 n3 d3, .int .i64 bad] := by rw [hw2]; exact Blk.new w1 _ _
    have HBK := Lib.hid hb2
    have HB2 := Lib.hid hB2
    have HW2 := Lib.hid hw2
    have HRT := Lib.hid (trace_Right (HTP.out.below hB2))
    unfold trV at HRT
    rw [← hbad] at HRT
    have HIS := Lib.hid (Is_nil w2)
    have HT2 := Lib.hid (HT1.out.below hB2 HT1.out.lt)
    have HBAD := Lib.hid hbad
    have HN1 := Lib.hid hn1
    have HN2 := Lib.hid hn2
    have HN3 := Lib.hid hn3
    clear hB2 hb2 hw2 hTP hp hbad hn1 hn2 hn3 c0 c1 c2 c3 f0 f1 f2 f3 s0 s1 s2 s3
    cases ord with
    | false =>
      have HPI : Hid (P = .ill) := Lib.hid (by rw [HP.out]; rfl)
      go_wp2_with fail
      rw [← HW2.out]
      refine HIS.out.mono ?_
      rintro e w2' ⟨rfl, rfl⟩
      obtain ⟨⟨c0, c1, c2, c3⟩, ⟨f0, f1, f2, f3⟩, s0, s1, s2, s3⟩ := HT2.out.all4
      go_wp2
      refine bodyPost_ret (v := .tuple #[.agg #[.slice none 0 0, .slice none 0 0, .slice none 0 0, .int .i64 0], .int .i64 0, .int .i64 14]) (by simp [results, Tryz.results6, go_sem, c0, c1, c2, c3]) rfl ?_
      refine ⟨HBW.out.trans (HB2.out.mono HBW.out.size), .slice none 0 0, .slice none 0 0, .slice none 0 0, by rw [HPI.out]; rfl, ?_⟩
      rw [HPI.out]
      exact TrP.nil _ _
    | true =>
      cases hrt : rightT d with
      | false =>
        have HPI : Hid (P = .ill) := Lib.hid (by rw [HP.out, hrt]; rfl)
        rw [hrt] at HRT
        clear hrt
        obtain ⟨⟨k0, k1, k2, k3⟩, -, -⟩ := HBK.out.all4
        go_wp2_with fail
        rw [← HW2.out]
        refine HIS.out.mono ?_
        rintro e w2' ⟨rfl, rfl⟩
        go_wp2_with fail
        refine HRT.out.mono ?_
        rintro e w3 ⟨rfl, hb3⟩
        have hB3 : Below w1.heap.size w1 w3 := HB2.out.trans (hb3.mono HB2.out.size)
        have HB3 := Lib.hid hB3
        obtain ⟨⟨c0, c1, c2, c3⟩, ⟨f0, f1, f2, f3⟩, s0, s1, s2, s3⟩ := (HT1.out.below hB3 HT1.out.lt).all4
        clear hb3 hB3
        go_wp2
        refine bodyPost_ret (v := .tuple #[.agg #[.slice none 0 0, .slice none 0 0, .slice none 0 0, .int .i64 0], .int .i64 0, .int .i64 14]) (by simp [results, Tryz.results6, go_sem, c0, c1, c2, c3]) rfl ?_
        refine ⟨HBW.out.trans (HB3.out.mono HBW.out.size), .slice none 0 0, .slice none 0 0, .slice none 0 0, by rw [HPI.out]; rfl, ?_⟩
        rw [HPI.out]
        exact TrP.nil _ _
      | true =>
        have HPI : Hid (P = .ok d) := Lib.hid (by rw [HP.out, hrt]; rfl)
        rw [hrt] at HRT
        clear hrt
        obtain ⟨⟨k0, k1, k2, k3⟩, -, -⟩ := HBK.out.all4
        go_wp2_with fail
        rw [← HW2.out]
        refine HIS.out.mono ?_
        rintro e w2' ⟨rfl, rfl⟩
        go_wp2_with fail
        refine HRT.out.mono ?_
        rintro e w3 ⟨rfl, hb3⟩
        have hB3 : Below w1.heap.size w1 w3 := HB2.out.trans (hb3.mono HB2.out.size)
        have HB3 := Lib.hid hB3
        have hT3 := HT1.out.below hB3 HT1.out.lt
        obtain ⟨⟨c0, c1, c2, c3⟩, ⟨f0, f1, f2, f3⟩, -⟩ := hT3.all4
        clear k0 k1 k2 k3
        obtain ⟨⟨k0, k1, k2, k3⟩, -, -⟩ := (HBK.out.below hb3 HBK.out.lt).all4
        have hT4 : Blk ((((w3.setCell ⟨g, 0, none⟩ (.slice A1 n1 d1)).setCell ⟨g, 1, none⟩ (.slice A2 n2 d2)).setCell ⟨g, 2, none⟩ (.slice A3 n3 d3)).setCell ⟨g, 3, none⟩ (.int .i64 bad)) g 29 #[.slice A1 n1 d1, .slice A2 n2 d2, .slice A3 n3 d3, .int .i64 bad] := (((hT3.set_ 0 _).set_ 1 _).set_ 2 _).set_ 3 _
        have HT4 := Lib.hid hT4
        have hc4 : Chg (fun k => k = g) w3 ((((w3.setCell ⟨g, 0, none⟩ (.slice A1 n1 d1)).setCell ⟨g, 1, none⟩ (.slice A2 n2 d2)).setCell ⟨g, 2, none⟩ (.slice A3 n3 d3)).setCell ⟨g, 3, none⟩ (.int .i64 bad)) := ((((Chg.refl (fun k => k = g) w3).setCell (p := ⟨g, 0, none⟩) (.inl rfl) _).setCell (p := ⟨g, 1, none⟩) (.inl rfl) _).setCell (p := ⟨g, 2, none⟩) (.inl rfl) _).setCell (p := ⟨g, 3, none⟩) (.inl rfl) _
        have HC4 := Lib.hid hc4
        clear hb3 hB3 hT3 hT4 hc4
        go_wp2
        obtain ⟨⟨p0, p1, p2, p3⟩, -, -⟩ := HT4.out.all4
        refine bodyPost_ret (v := .tuple #[.agg #[.slice A1 n1 d1, .slice A2 n2 d2, .slice A3 n3 d3, .int .i64 bad], .int .i64 0, .int .i64 0]) (by simp [results, Tryz.results6, go_sem, p0, p1, p2, p3]) rfl ?_
        have hb := HBW.out.trans (HB3.out.mono HBW.out.size)
        refine ⟨hb.trans (HC4.out.below hb.size (fun i hi => by rw [hi, HG.out]; exact Nat.le_refl _)), .slice A1 n1 d1, .slice A2 n2 d2, .slice A3 n3 d3, by rw [HPI.out]; unfold trV resD; simp only; rw [← HBAD.out]; rfl, ?_⟩
        rw [HPI.out]
        have hW := HTPW.out _ ((Chg.of_below (S := fun k => k < wA.heap.size) HB3.out).trans HC4.out (fun i hi => .inl (by rw [hi]; exact HGA.out)))
        rw [← HN1.out, ← HN2.out, ← HN3.out] at hW
        exact hW
end Go.Proofs.YtibinmabdidecaaGreatDoor
