/-
  The document's Parse of a report, walked.
-/
import Derived.Test.YtamgbfkpblpfiaaGreatDoorRqN
import Derived.Test.YtamgbfkpblpfiaaGreatDoorRpD
import Derived.Test.YtamgbfkpblpfiaaGreatDoorRpH
import Derived.Test.YtamgbfkpblpfiaaGreatDoorRpI
namespace Go.Proofs.YtamgbfkpblpfiaaGreatDoor
open Go.ChangeShapes Go.WideShapes Go.ChangeAt Go.RowKit
set_option linter.unusedVariables false
set_option linter.unusedSimpArgs false
theorem rdL_spent {k : Nat} {d d' : RpD} {s r : List UInt8} (hk : k ≤ 3) (h : rdL k d s = some (d', r)) : d'.spent = d.spent := by
  match k, hk with
  | 0, _ | 1, _ =>
    simp only [rdL] at h
    split at h
    · split at h
      · injection h with h; injection h with e1 e2; rw [← e1]
      · cases h
    · cases h
  | 2, _ | 3, _ =>
    simp only [rdL] at h
    split at h
    · split at h
      · split at h
        · injection h with h; injection h with e1 e2; rw [← e1]
        · cases h
      · cases h
    · cases h
theorem dline_ {w : World} {g k : Nat} {d : RpD} {vl vm vi vp : Value} {l : List UInt8} (hk : k ≤ 5) (h : Blk w g 33 (rpA d vl vm vi vp)) (hp : PoAt w g vp d.ports) (hl : l.length ≤ 100000) (hs : k ≤ 4 → d.spent = false) (hd : k ≤ 5 → d.ports = []) :
    Calls Tryz.prog 24 #[.pointer (some ⟨g, 0, none⟩), .int .i64 (k : Int), .string (bs l)] w (LineD w g vl vm vi (rdK k d l)) := by
  match k, hk with
  | 0, _ => exact dline0_ h hp hl
  | 1, _ => exact dline1_ h hp hl
  | 2, _ => exact dline2_ h hp hl
  | 3, _ => exact dline3_ h hp hl
  | 4, _ => exact dline4_ h hp hl (hs (by omega))
  | 5, _ => exact dline5_ h hp hl (hd (by omega))
/-- Ahead of the k-th line of the document's. -/
structure DSt (g : Nat) (P : RRes) (k : Nat) (d : RpD) (rest : List UInt8) (vp : Value) (wr : World) : Prop where
  blk : Blk wr g 33 (rpA d (.slice none 0 0) (.slice none 0 0) (.slice none 0 0) vp)
  po : PoAt wr g vp d.ports
  no : k ≤ 5 → d.ports = []
  tr : d.tr = tr0
  sp : k ≤ 4 → d.spent = false
  len : rest.length ≤ 50000
  eq : P = runR (6 - k) k d rest
theorem DSt.bad1 {g k : Nat} {P : RRes} {d : RpD} {rest : List UInt8} {vp : Value} {wr : World} (h : DSt g P k d rest vp wr) (hk : k < 6) (hc : cutT rest = none) : P = .bad (k + 1) := by
  rw [h.eq, show 6 - k = (6 - (k + 1)) + 1 by omega, runR, rdL_K, hc]
theorem DSt.bad2 {g k : Nat} {P : RRes} {d : RpD} {rest l r : List UInt8} {vp : Value} {wr : World} (h : DSt g P k d rest vp wr) (hk : k < 6) (hc : cutT rest = some (l, r)) (hd : rdK k d l = none) : P = .bad (k + 1) := by
  rw [h.eq, show 6 - k = (6 - (k + 1)) + 1 by omega, runR, rdL_K, hc]
  simp only [hd]
theorem DSt.next {g k : Nat} {P : RRes} {d d' : RpD} {rest l r : List UInt8} {vp vp' : Value} {wr w' : World} (h : DSt g P k d rest vp wr) (hk : k < 6) (hc : cutT rest = some (l, r)) (hd : rdK k d l = some d') (hb : Blk w' g 33 (rpA d' (.slice none 0 0) (.slice none 0 0) (.slice none 0 0) vp')) (hp : PoAt w' g vp' d'.ports) : DSt g P (k + 1) d' r vp' w' := by
  have hL : rdL k d rest = some (d', r) := by rw [rdL_K, hc]; simp only [hd]
  obtain ⟨k1, k2, k3⟩ := rdL_keep hL
  refine ⟨hb, hp, fun h5 => (k3 (by omega)).trans (h.no (by omega)), k2.trans h.tr, fun h4 => (rdL_spent (by omega) hL).trans (h.sp (by omega)), by have := h.len; omega, ?_⟩
  rw [h.eq, show 6 - k = (6 - (k + 1)) + 1 by omega, runR, hL]
set_option maxHeartbeats 16000000 in
set_option maxRecDepth 100000 in
theorem r37_Parse {w : World} {s : List UInt8} (hl : s.length ≤ 50000) :
    Calls Tryz.prog 7 #[.string (bs s)] w (ParseRQ w (parseR s)) := by
  obtain ⟨g0, hg0⟩ : ∃ g0, g0 = w.heap.size := ⟨_, rfl⟩
  obtain ⟨g, hg⟩ : ∃ g, g = g0 + 1 := ⟨_, rfl⟩
  obtain ⟨P, hP⟩ : ∃ P, P = parseR s := ⟨_, rfl⟩
  rw [← hP]
  obtain ⟨z, hz⟩ : ∃ z : Array Value, z = #[.int .i64 0, .int .i64 0, .int .i64 0, .int .i64 0, (.slice none 0 0), (.slice none 0 0), (.slice none 0 0), .int .i64 0, .int .i64 0, .int .i64 0, .bool false, (.slice none 0 0)] := ⟨_, rfl⟩
  obtain ⟨wA, hwA⟩ : ∃ wA, wA = (w.alloc (.cells z 33)).alloc (.cells z 33) := ⟨_, rfl⟩
  have hB0 : Below w.heap.size w wA := by rw [hwA]; exact ((Below.refl _ w).alloc (Nat.le_refl _) _).alloc (by simp) _
  have hTA : Blk wA g0 33 z := by rw [hwA, hg0]; exact (Blk.new w _ _).alloc _
  have hRA : Blk wA g 33 z := by
    have := Blk.new (w.alloc (.cells z 33)) 33 z
    rw [show (w.alloc (.cells z 33)).heap.size = w.heap.size + 1 by simp] at this
    rw [hwA, hg, hg0]
    exact this
  have HST : Hid (DSt g P 0 rpZ s (.slice none 0 0) wA) := Lib.hid ⟨by rw [hz] at hRA; exact hRA, ⟨World.ownsRow_nil _ _ _ _, fun k hk => by simp [Value.ownBlock] at hk, fun _ => rfl⟩, fun _ => rfl, rfl, fun _ => rfl, hl, hP⟩
  have HB0 := Lib.hid hB0
  have HTA := Lib.hid hTA
  have HG := Lib.hid hg0
  have HG1 := Lib.hid hg
  have HWA := Lib.hid hwA
  have HGB : Hid (w.heap.size ≤ g0) := Lib.hid (by omega)
  rw [hz] at HWA HTA
  clear hP hg0 hg hwA hB0 hTA hRA hz hl
  go_enter Tryz.func7, Tryz.ntmps7
  go_wp2_with fail
  rw [show w.heap.size = g0 from HG.out.symm, ← HG1.out, ← HWA.out]
  go_loopw [0, 6] (fun sv c wr => ∃ k d rest vp, k ≤ 6 ∧ sv = .string (bs rest) ∧ c = .int .i64 (k : Nat) ∧ DSt g P k d rest vp wr ∧ Chg (fun k => k = g) wA wr) (fun _ c _ => 6 - (intOf c).toNat)
  case atStart => exact ⟨0, _, _, _, by omega, rfl, rfl, HST.out, Chg.refl _ _⟩
  case round =>
    obtain ⟨k, d, rest, vp, hk, rfl, rfl, hds, hch⟩ := hrel
    have HDS := Lib.hid hds
    have HCH := Lib.hid hch
    have HTR := Lib.hid (HTA.out.chg hch (by have := HG1.out; omega))
    have HBR := Lib.hid (HB0.out.trans (hch.below HB0.out.size (fun i hi => by have := HG1.out; have := HGB.out; omega)))
    clear hds hch
    by_cases hlt : (k : Int) < 6
    · have hk6 : k < 6 := by omega
      have HCT := Lib.hid (r37_cut (l := rest) (by have := HDS.out.len; omega) wr)
      unfold CutQ at HCT
      have hw1 : IntKind.i64.wrap ((k : Int) + 1) = (k : Int) + 1 := IntWalk.i64_in _ (by omega)
      cases hc : cutT rest with
      | none =>
        rw [hc] at HCT
        have HPB : Hid (P = .bad (k + 1)) := Lib.hid (HDS.out.bad1 hk6 hc)
        obtain ⟨sr, hsr⟩ : ∃ sr, sr = bs rest := ⟨_, rfl⟩
        rw [← hsr] at HCT ⊢
        clear hc hsr
        go_wp2_with fail
        refine HCT.out.mono ?_
        rintro e w9 ⟨hb9, rfl⟩
        have hT9 := HTR.out.below hb9 HTR.out.lt
        have hB9 := HBR.out.trans (hb9.mono HBR.out.size)
        clear hb9
        obtain ⟨c0, c1, c2, c3, c4, c5, c6, c7, c8, c9, c10, c11⟩ := load_agg12 hT9
        have f0 := hT9.frozen 0
        have f1 := hT9.frozen 1
        have f2 := hT9.frozen 2
        have f3 := hT9.frozen 3
        have f4 := hT9.frozen 4
        have f5 := hT9.frozen 5
        have f6 := hT9.frozen 6
        have f7 := hT9.frozen 7
        have f8 := hT9.frozen 8
        have f9 := hT9.frozen 9
        have f10 := hT9.frozen 10
        have f11 := hT9.frozen 11
        have HT9 := Lib.hid hT9
        have HB9 := Lib.hid hB9
        clear hT9 hB9
        go_wp2_with fail
        clear f0 c0 f1 c1 f2 c2 f3 c3 f4 c4 f5 c5 f6 c6 f7 c7 f8 c8 f9 c9 f10 c10 f11 c11
        obtain ⟨p0, p1, p2, p3, p4, p5, p6, p7, p8, p9, p10, p11⟩ := load_agg12 (blk12 HT9.out (.int .i64 0) (.int .i64 0) (.int .i64 0) (.int .i64 0) (.slice none 0 0) (.slice none 0 0) (.slice none 0 0) (.int .i64 0) (.int .i64 0) (.int .i64 0) (.bool false) (.slice none 0 0))
        refine bodyPost_ret (v := .tuple #[.agg #[.int .i64 0, .int .i64 0, .int .i64 0, .int .i64 0, (.slice none 0 0), (.slice none 0 0), (.slice none 0 0), .int .i64 0, .int .i64 0, .int .i64 0, .bool false, (.slice none 0 0)], .int .i64 ((k : Int) + 1), .int .i64 2]) (by simp [results, Tryz.results7, go_sem, p0, p1, p2, p3, p4, p5, p6, p7, p8, p9, p10, p11]) rfl ?_
        exact ⟨set12 HB9.out HGB.out _ _ _ _ _ _ _ _ _ _ _ _, (.slice none 0 0), (.slice none 0 0), (.slice none 0 0), (.slice none 0 0), by rw [HPB.out]; rfl, by rw [HPB.out]; exact rpP0 _⟩
      | some q =>
        obtain ⟨l, r⟩ := q
        rw [hc] at HCT
        have hcl := cutT_len hc
        have hle := HDS.out.len
        have HLD : Hid (∀ W, Below wr.heap.size wr W → Calls Tryz.prog 24 #[.pointer (some ⟨g, 0, none⟩), .int .i64 (k : Int), .string (bs l)] W (LineD W g (.slice none 0 0) (.slice none 0 0) (.slice none 0 0) (rdK k d l))) := Lib.hid fun W hW => dline_ (by omega) (HDS.out.blk.below hW HDS.out.blk.lt) (HDS.out.po.chg (Chg.of_below hW)) (by omega) HDS.out.sp HDS.out.no
        have HCC := Lib.hid hc
        simp only at HCT
        obtain ⟨sr, hsr⟩ : ∃ sr, sr = bs rest := ⟨_, rfl⟩
        obtain ⟨sl, hsl⟩ : ∃ sl, sl = bs l := ⟨_, rfl⟩
        obtain ⟨s2, hs2⟩ : ∃ s2, s2 = bs r := ⟨_, rfl⟩
        rw [← hsr] at HCT ⊢
        rw [← hsl, ← hs2] at HCT
        rw [← hsl] at HLD
        have HS2 := Lib.hid hs2
        clear hc hsr hsl hs2 hcl hle
        go_wp2_with fail
        refine HCT.out.mono ?_
        rintro e w5 ⟨hb5, rfl⟩
        have HB5 := Lib.hid hb5
        have HL5 := Lib.hid (HLD.out w5 hb5)
        clear hb5
        go_wp2_with fail
        refine HL5.out.mono ?_
        rintro e w9 ⟨hc9, ho⟩
        have HC9 := Lib.hid ((Chg.of_below (S := fun k => k = g) HB5.out).trans hc9 (fun i hi => .inl hi))
        clear hc9
        cases hd : rdK k d l with
        | none =>
          rw [hd] at ho
          subst ho
          have HPB : Hid (P = .bad (k + 1)) := Lib.hid (HDS.out.bad2 hk6 HCC.out hd)
          have hT9 := HTR.out.chg HC9.out (by have := HG1.out; omega)
          have hB9 := HBR.out.trans (HC9.out.below HBR.out.size (fun i hi => by have := HG1.out; have := HGB.out; omega))
          clear hd
          obtain ⟨c0, c1, c2, c3, c4, c5, c6, c7, c8, c9, c10, c11⟩ := load_agg12 hT9
          have f0 := hT9.frozen 0
          have f1 := hT9.frozen 1
          have f2 := hT9.frozen 2
          have f3 := hT9.frozen 3
          have f4 := hT9.frozen 4
          have f5 := hT9.frozen 5
          have f6 := hT9.frozen 6
          have f7 := hT9.frozen 7
          have f8 := hT9.frozen 8
          have f9 := hT9.frozen 9
          have f10 := hT9.frozen 10
          have f11 := hT9.frozen 11
          have HT9 := Lib.hid hT9
          have HB9 := Lib.hid hB9
          clear hT9 hB9
          go_wp2_with fail
          clear f0 c0 f1 c1 f2 c2 f3 c3 f4 c4 f5 c5 f6 c6 f7 c7 f8 c8 f9 c9 f10 c10 f11 c11
          obtain ⟨p0, p1, p2, p3, p4, p5, p6, p7, p8, p9, p10, p11⟩ := load_agg12 (blk12 HT9.out (.int .i64 0) (.int .i64 0) (.int .i64 0) (.int .i64 0) (.slice none 0 0) (.slice none 0 0) (.slice none 0 0) (.int .i64 0) (.int .i64 0) (.int .i64 0) (.bool false) (.slice none 0 0))
          refine bodyPost_ret (v := .tuple #[.agg #[.int .i64 0, .int .i64 0, .int .i64 0, .int .i64 0, (.slice none 0 0), (.slice none 0 0), (.slice none 0 0), .int .i64 0, .int .i64 0, .int .i64 0, .bool false, (.slice none 0 0)], .int .i64 ((k : Int) + 1), .int .i64 2]) (by simp [results, Tryz.results7, go_sem, p0, p1, p2, p3, p4, p5, p6, p7, p8, p9, p10, p11]) rfl ?_
          exact ⟨set12 HB9.out HGB.out _ _ _ _ _ _ _ _ _ _ _ _, (.slice none 0 0), (.slice none 0 0), (.slice none 0 0), (.slice none 0 0), by rw [HPB.out]; rfl, by rw [HPB.out]; exact rpP0 _⟩
        | some d' =>
          rw [hd] at ho
          obtain ⟨rfl, vp', hbk, hpo⟩ := ho
          have HNX := Lib.hid (HDS.out.next hk6 HCC.out hd hbk hpo)
          have HCN := Lib.hid (HCH.out.trans HC9.out (fun i hi => .inl hi))
          clear hd hbk hpo
          go_wp2_with fail
          go_roundw
          case rel => exact ⟨k + 1, d', r, vp', by omega, by rw [HS2.out], by go_num, HNX.out, HCN.out⟩
          case measure => simp [intOf]; omega
    · obtain rfl : k = 6 := by omega
      have HPE : Hid (P = endR d rest) := Lib.hid HDS.out.eq
      have kv : wr.cell? ⟨g, 0, none⟩ = some (.int .i64 d.verdict) := HDS.out.blk.cell 0
      by_cases hv : d.verdict = 2
      · have hv2 : (d.verdict == 2) = true := by rw [hv]; rfl
        have HTP := Lib.hid (r15_ParseV (w := wr) HDS.out.len)
        have HOV : Hid (P = match parseT rest with | .bad n => .bad (n + 6) | .ill => .ill | .ok t => finR { d with tr := t }) := Lib.hid (by rw [HPE.out, endR, if_pos hv]; cases parseT rest <;> rfl)
        have HPBD : Hid (∀ n, parseT rest = .bad n → n ≤ 4 + 2 * 50000) := Lib.hid fun n hn => by have := parseT_bad hn; have := HDS.out.len; omega
        generalize parseT rest = p at *
        obtain ⟨sr, hsr⟩ : ∃ sr, sr = bs rest := ⟨_, rfl⟩
        rw [← hsr] at HTP ⊢
        clear hv hsr
        go_wp2_with fail
        refine HTP.out.mono ?_
        rintro e w1 ⟨hb1, vl, vm, vi, rfl, hT⟩
        have hT1 := hT w1 (Chg.refl _ _)
        obtain ⟨A1, d1, rfl⟩ := hT1.lat.len
        obtain ⟨A2, d2', rfl, -, -⟩ := hT1.mems.form
        obtain ⟨A3, d3, rfl, -, -⟩ := hT1.ins.form
        obtain ⟨n1, hn1⟩ : ∃ n, n = (resD p).lat.length := ⟨_, rfl⟩
        obtain ⟨n2, hn2⟩ : ∃ n, n = (resD p).mems.length := ⟨_, rfl⟩
        obtain ⟨n3, hn3⟩ : ∃ n, n = (resD p).ins.length := ⟨_, rfl⟩
        obtain ⟨bad, hbad⟩ : ∃ n, n = (resD p).bad := ⟨_, rfl⟩
        obtain ⟨W2, hW2⟩ : ∃ W2, W2 = w1.alloc (.cells #[.slice A1 n1 d1, .slice A2 n2 d2', .slice A3 n3 d3, .int .i64 bad] 30) := ⟨_, rfl⟩
        have hb2 : Below wr.heap.size wr W2 := by rw [hW2]; exact hb1.alloc hb1.size _
        have hb12 : Below w1.heap.size w1 W2 := by rw [hW2]; exact (Below.refl _ w1).alloc (Nat.le_refl _) _
        have HB2 := Lib.hid hb2
        have HBK2 := Lib.hid (HDS.out.blk.below hb2 HDS.out.blk.lt)
        have HGW : Hid (g < wr.heap.size) := Lib.hid HDS.out.blk.lt
        have HT := Lib.hid (show ∀ W, Chg (fun k => k < wr.heap.size) W2 W → TrP W (resD p) (.slice A1 n1 d1) (.slice A2 n2 d2') (.slice A3 n3 d3) from fun W hW => by
          rw [hn1, hn2, hn3]
          exact hT W ((Chg.of_below (S := fun k => k < wr.heap.size) hb12).trans hW (fun i hi => .inl hi)))
        have HTB2 := Lib.hid (HTR.out.below hb2 HTR.out.lt)
        have HBW2 := Lib.hid (HBR.out.trans (hb2.mono HBR.out.size))
        have HW2 := Lib.hid hW2
        rw [← hn1, ← hn2, ← hn3]
        unfold trV
        rw [← hbad]
        have HBAD := Lib.hid hbad
        have HN1 := Lib.hid hn1
        have HN2 := Lib.hid hn2
        have HN3 := Lib.hid hn3
        clear hn1 hn2 hn3 hbad hT hT1 hb1 hb2 hb12 hW2 kv
        cases p with
        | bad n =>
          have hn9 := HPBD.out n rfl
          have hw6 : IntKind.i64.wrap ((n : Int) + 6) = (n : Int) + 6 := IntWalk.i64_in _ (by omega)
          have HPB : Hid (P = .bad (n + 6)) := Lib.hid HOV.out
          unfold resN resF
          have hT9 := HTB2.out
          have hB9 := HBW2.out
          rw [HW2.out] at hT9 hB9
          obtain ⟨c0, c1, c2, c3, c4, c5, c6, c7, c8, c9, c10, c11⟩ := load_agg12 hT9
          have f0 := hT9.frozen 0
          have f1 := hT9.frozen 1
          have f2 := hT9.frozen 2
          have f3 := hT9.frozen 3
          have f4 := hT9.frozen 4
          have f5 := hT9.frozen 5
          have f6 := hT9.frozen 6
          have f7 := hT9.frozen 7
          have f8 := hT9.frozen 8
          have f9 := hT9.frozen 9
          have f10 := hT9.frozen 10
          have f11 := hT9.frozen 11
          have HT9 := Lib.hid hT9
          have HB9 := Lib.hid hB9
          clear hT9 hB9
          go_wp2_with fail
          clear f0 c0 f1 c1 f2 c2 f3 c3 f4 c4 f5 c5 f6 c6 f7 c7 f8 c8 f9 c9 f10 c10 f11 c11
          obtain ⟨p0, p1, p2, p3, p4, p5, p6, p7, p8, p9, p10, p11⟩ := load_agg12 (blk12 HT9.out (.int .i64 0) (.int .i64 0) (.int .i64 0) (.int .i64 0) (.slice none 0 0) (.slice none 0 0) (.slice none 0 0) (.int .i64 0) (.int .i64 0) (.int .i64 0) (.bool false) (.slice none 0 0))
          refine bodyPost_ret (v := .tuple #[.agg #[.int .i64 0, .int .i64 0, .int .i64 0, .int .i64 0, (.slice none 0 0), (.slice none 0 0), (.slice none 0 0), .int .i64 0, .int .i64 0, .int .i64 0, .bool false, (.slice none 0 0)], .int .i64 ((n : Int) + 6), .int .i64 2]) (by simp [results, Tryz.results7, go_sem, p0, p1, p2, p3, p4, p5, p6, p7, p8, p9, p10, p11]) rfl ?_
          exact ⟨set12 HB9.out HGB.out _ _ _ _ _ _ _ _ _ _ _ _, (.slice none 0 0), (.slice none 0 0), (.slice none 0 0), (.slice none 0 0), by rw [HPB.out]; rfl, by rw [HPB.out]; exact rpP0 _⟩
        | ill =>
          have HPB : Hid (P = .ill) := Lib.hid HOV.out
          unfold resN resF
          have hT9 := HTB2.out
          have hB9 := HBW2.out
          rw [HW2.out] at hT9 hB9
          obtain ⟨c0, c1, c2, c3, c4, c5, c6, c7, c8, c9, c10, c11⟩ := load_agg12 hT9
          have f0 := hT9.frozen 0
          have f1 := hT9.frozen 1
          have f2 := hT9.frozen 2
          have f3 := hT9.frozen 3
          have f4 := hT9.frozen 4
          have f5 := hT9.frozen 5
          have f6 := hT9.frozen 6
          have f7 := hT9.frozen 7
          have f8 := hT9.frozen 8
          have f9 := hT9.frozen 9
          have f10 := hT9.frozen 10
          have f11 := hT9.frozen 11
          have HT9 := Lib.hid hT9
          have HB9 := Lib.hid hB9
          clear hT9 hB9
          go_wp2_with fail
          clear f0 c0 f1 c1 f2 c2 f3 c3 f4 c4 f5 c5 f6 c6 f7 c7 f8 c8 f9 c9 f10 c10 f11 c11
          obtain ⟨p0, p1, p2, p3, p4, p5, p6, p7, p8, p9, p10, p11⟩ := load_agg12 (blk12 HT9.out (.int .i64 0) (.int .i64 0) (.int .i64 0) (.int .i64 0) (.slice none 0 0) (.slice none 0 0) (.slice none 0 0) (.int .i64 0) (.int .i64 0) (.int .i64 0) (.bool false) (.slice none 0 0))
          refine bodyPost_ret (v := .tuple #[.agg #[.int .i64 0, .int .i64 0, .int .i64 0, .int .i64 0, (.slice none 0 0), (.slice none 0 0), (.slice none 0 0), .int .i64 0, .int .i64 0, .int .i64 0, .bool false, (.slice none 0 0)], .int .i64 0, .int .i64 14]) (by simp [results, Tryz.results7, go_sem, p0, p1, p2, p3, p4, p5, p6, p7, p8, p9, p10, p11]) rfl ?_
          exact ⟨set12 HB9.out HGB.out _ _ _ _ _ _ _ _ _ _ _ _, (.slice none 0 0), (.slice none 0 0), (.slice none 0 0), (.slice none 0 0), by rw [HPB.out]; rfl, by rw [HPB.out]; exact rpP0 _⟩
        | ok t =>
          have h2 := HBK2.out
          obtain ⟨d2, hd2⟩ : ∃ d2 : RpD, d2 = { d with tr := t } := ⟨_, rfl⟩
          have k0 : W2.cell? ⟨g, 0, none⟩ = some (.int .i64 d2.verdict) := by rw [hd2]; exact h2.cell 0
          have k1 : W2.cell? ⟨g, 1, none⟩ = some (.int .i64 d2.depth) := by rw [hd2]; exact h2.cell 1
          have k2 : W2.cell? ⟨g, 2, none⟩ = some (.int .i64 d2.fault) := by rw [hd2]; exact h2.cell 2
          have k3 : W2.cell? ⟨g, 3, none⟩ = some (.int .i64 d2.place) := by rw [hd2]; exact h2.cell 3
          have k4 : W2.cell? ⟨g, 4, none⟩ = some (.slice none 0 0) := h2.cell 4
          have k5 : W2.cell? ⟨g, 5, none⟩ = some (.slice none 0 0) := h2.cell 5
          have k6 : W2.cell? ⟨g, 6, none⟩ = some (.slice none 0 0) := h2.cell 6
          have k7 : W2.cell? ⟨g, 7, none⟩ = some (.int .i64 d.tr.bad) := h2.cell 7
          have k8 : W2.cell? ⟨g, 8, none⟩ = some (.int .i64 d2.calls) := by rw [hd2]; exact h2.cell 8
          have k9 : W2.cell? ⟨g, 9, none⟩ = some (.int .i64 d2.conf) := by rw [hd2]; exact h2.cell 9
          have k10 : W2.cell? ⟨g, 10, none⟩ = some (.bool d2.spent) := by rw [hd2]; exact h2.cell 10
          have k11 : W2.cell? ⟨g, 11, none⟩ = some vp := h2.cell 11
          have f4 := h2.frozen 4
          have f5 := h2.frozen 5
          have f6 := h2.frozen 6
          have f7 := h2.frozen 7
          obtain ⟨W, hW⟩ : ∃ W, W = (((W2.setCell ⟨g, 4, none⟩ (.slice A1 n1 d1)).setCell ⟨g, 5, none⟩ (.slice A2 n2 d2')).setCell ⟨g, 6, none⟩ (.slice A3 n3 d3)).setCell ⟨g, 7, none⟩ (.int .i64 bad) := ⟨_, rfl⟩
          have hbk : Blk W g 33 (rpA d2 (.slice A1 n1 d1) (.slice A2 n2 d2') (.slice A3 n3 d3) vp) := by
            have := (((Blk.set_ h2 4 (.slice A1 n1 d1)).set_ 5 (.slice A2 n2 d2')).set_ 6 (.slice A3 n3 d3)).set_ 7 (.int .i64 bad)
            rw [hW, hd2, HBAD.out]
            rw [HBAD.out] at this
            exact this
          have hcw : Chg (fun k => k = g) W2 W := by
            rw [hW]
            exact ((((Chg.refl (fun k => k = g) W2).setCell (p := ⟨g, 4, none⟩) (.inl rfl) _).setCell (p := ⟨g, 5, none⟩) (.inl rfl) _).setCell (p := ⟨g, 6, none⟩) (.inl rfl) _).setCell (p := ⟨g, 7, none⟩) (.inl rfl) _
          have hpoW := (HDS.out.po.chg (Chg.of_below HB2.out)).chg hcw
          obtain ⟨A4, n4, d4, hvp⟩ : ∃ A n c, vp = .slice A n c := by
            obtain ⟨A, c, e, -⟩ := hpoW.1.ints
            exact ⟨A, _, c, e⟩
          have HFAR : Hid (∀ W', Chg (fun k => k ≤ g) W W' → RpP W' d2 (.slice A1 n1 d1) (.slice A2 n2 d2') (.slice A3 n3 d3) vp) := Lib.hid fun W' hW' => by
            rw [hd2]
            exact ⟨HT.out W' ((hcw.mono (fun i hi => (by rw [hi]; exact HGW.out : i < wr.heap.size))).trans hW' (fun i hi => .inl (by have := HGW.out; omega))), (hpoW.far hW').1.ints⟩
          have HP2 : Hid (P = finR d2) := Lib.hid (by rw [hd2]; exact HOV.out)
          have hTW := HTB2.out.chg hcw (by have := HG1.out; omega)
          have hBW := HBW2.out.trans (hcw.below HBW2.out.size (fun i hi => by have := HG1.out; have := HGB.out; omega))
          have HWD := Lib.hid hW
          have hbd : bad = d2.tr.bad := by rw [hd2]; exact HBAD.out
          rw [HW2.out] at k0 k1 k2 k3 k4 k5 k6 k7 k8 k9 k10 k11 f4 f5 f6 f7 HWD
          subst hvp
          subst hbd
          clear h2 hcw hpoW hd2 hW
          unfold resN resF
          have HRT := Lib.hid (r37_Right (HFAR.out W (Chg.refl _ _)))
          unfold rpV at HRT
          have HBK := Lib.hid hbk
          have HTW := Lib.hid hTW
          have HBW := Lib.hid hBW
          clear hbk hTW hBW
          cases hrr : rightR d2 with
          | false =>
            have HPB : Hid (P = .ill) := Lib.hid (by rw [HP2.out, finR, if_neg (by rw [hrr]; decide)])
            rw [hrr] at HRT
            clear hrr
            go_wp2_with fail
            rw [← HWD.out]
            refine HRT.out.mono ?_
            rintro e w9 ⟨rfl, hb9⟩
            have hT9 := HTW.out.below hb9 HTW.out.lt
            have hB9 := HBW.out.trans (hb9.mono HBW.out.size)
            clear hb9 k0 k1 k2 k3 k4 k5 k6 k7 k8 k9 k10 k11
            obtain ⟨c0, c1, c2, c3, c4, c5, c6, c7, c8, c9, c10, c11⟩ := load_agg12 hT9
            have f0 := hT9.frozen 0
            have f1 := hT9.frozen 1
            have f2 := hT9.frozen 2
            have f3 := hT9.frozen 3
            have f4 := hT9.frozen 4
            have f5 := hT9.frozen 5
            have f6 := hT9.frozen 6
            have f7 := hT9.frozen 7
            have f8 := hT9.frozen 8
            have f9 := hT9.frozen 9
            have f10 := hT9.frozen 10
            have f11 := hT9.frozen 11
            have HT9 := Lib.hid hT9
            have HB9 := Lib.hid hB9
            clear hT9 hB9
            go_wp2_with fail
            clear f0 c0 f1 c1 f2 c2 f3 c3 f4 c4 f5 c5 f6 c6 f7 c7 f8 c8 f9 c9 f10 c10 f11 c11
            obtain ⟨p0, p1, p2, p3, p4, p5, p6, p7, p8, p9, p10, p11⟩ := load_agg12 (blk12 HT9.out (.int .i64 0) (.int .i64 0) (.int .i64 0) (.int .i64 0) (.slice none 0 0) (.slice none 0 0) (.slice none 0 0) (.int .i64 0) (.int .i64 0) (.int .i64 0) (.bool false) (.slice none 0 0))
            refine bodyPost_ret (v := .tuple #[.agg #[.int .i64 0, .int .i64 0, .int .i64 0, .int .i64 0, (.slice none 0 0), (.slice none 0 0), (.slice none 0 0), .int .i64 0, .int .i64 0, .int .i64 0, .bool false, (.slice none 0 0)], .int .i64 0, .int .i64 14]) (by simp [results, Tryz.results7, go_sem, p0, p1, p2, p3, p4, p5, p6, p7, p8, p9, p10, p11]) rfl ?_
            exact ⟨set12 HB9.out HGB.out _ _ _ _ _ _ _ _ _ _ _ _, (.slice none 0 0), (.slice none 0 0), (.slice none 0 0), (.slice none 0 0), by rw [HPB.out]; rfl, by rw [HPB.out]; exact rpP0 _⟩
          | true =>
            have HPB : Hid (P = .ok d2) := Lib.hid (by rw [HP2.out, finR, if_pos hrr])
            rw [hrr] at HRT
            clear hrr
            go_wp2_with fail
            rw [← HWD.out]
            refine HRT.out.mono ?_
            rintro e w9 ⟨rfl, hb9⟩
            have hT9 := HTW.out.below hb9 HTW.out.lt
            have hB9 := HBW.out.trans (hb9.mono HBW.out.size)
            have HFR : Hid (∀ W', Chg (fun k => k ≤ g) w9 W' → RpP W' d2 (.slice A1 n1 d1) (.slice A2 n2 d2') (.slice A3 n3 d3) (.slice A4 n4 d4)) := Lib.hid fun W' hW' => HFAR.out W' ((Chg.of_below (S := fun k => k ≤ g) hb9).trans hW' (fun i hi => .inl hi))
            clear k0 k1 k2 k3 k4 k5 k6 k7 k8 k9 k10 k11
            obtain ⟨k0, k1, k2, k3, k4, k5, k6, k7, k8, k9, k10, k11⟩ := load_agg12 (HBK.out.below hb9 HBK.out.lt)
            obtain ⟨c0, c1, c2, c3, c4, c5, c6, c7, c8, c9, c10, c11⟩ := load_agg12 hT9
            have f0 := hT9.frozen 0
            have f1 := hT9.frozen 1
            have f2 := hT9.frozen 2
            have f3 := hT9.frozen 3
            have f4 := hT9.frozen 4
            have f5 := hT9.frozen 5
            have f6 := hT9.frozen 6
            have f7 := hT9.frozen 7
            have f8 := hT9.frozen 8
            have f9 := hT9.frozen 9
            have f10 := hT9.frozen 10
            have f11 := hT9.frozen 11
            have HT9 := Lib.hid hT9
            have HB9 := Lib.hid hB9
            clear hT9 hB9 hb9
            skip
            go_wp2_with fail
            clear f0 c0 f1 c1 f2 c2 f3 c3 f4 c4 f5 c5 f6 c6 f7 c7 f8 c8 f9 c9 f10 c10 f11 c11 k0 k1 k2 k3 k4 k5 k6 k7 k8 k9 k10 k11
            obtain ⟨p0, p1, p2, p3, p4, p5, p6, p7, p8, p9, p10, p11⟩ := load_agg12 (blk12 HT9.out (.int .i64 d2.verdict) (.int .i64 d2.depth) (.int .i64 d2.fault) (.int .i64 d2.place) (.slice A1 n1 d1) (.slice A2 n2 d2') (.slice A3 n3 d3) (.int .i64 d2.tr.bad) (.int .i64 d2.calls) (.int .i64 d2.conf) (.bool d2.spent) (.slice A4 n4 d4))
            refine bodyPost_ret (v := .tuple #[.agg #[.int .i64 d2.verdict, .int .i64 d2.depth, .int .i64 d2.fault, .int .i64 d2.place, (.slice A1 n1 d1), (.slice A2 n2 d2'), (.slice A3 n3 d3), .int .i64 d2.tr.bad, .int .i64 d2.calls, .int .i64 d2.conf, .bool d2.spent, (.slice A4 n4 d4)], .int .i64 0, .int .i64 0]) (by simp [results, Tryz.results7, go_sem, p0, p1, p2, p3, p4, p5, p6, p7, p8, p9, p10, p11]) rfl ?_
            refine ⟨set12 HB9.out HGB.out _ _ _ _ _ _ _ _ _ _ _ _, (.slice A1 n1 d1), (.slice A2 n2 d2'), (.slice A3 n3 d3), (.slice A4 n4 d4), by rw [HPB.out]; rfl, ?_⟩
            rw [HPB.out]
            exact HFR.out _ ((chg12 _ _ _ _ _ _ _ _ _ _ _ _ _ _).mono (fun i hi => by rw [hi]; have := HG1.out; omega))
      · have hv2 : (d.verdict == 2) = false := by rw [beq_eq_false_iff_ne]; exact hv
        by_cases hs : rest = []
        · have HP2 : Hid (P = finR d) := Lib.hid (by rw [HPE.out, endR, if_neg hv, if_pos hs])
          have hs1 : (!(bs rest).toList.isEmpty) = false := by rw [hs, Lib.toList_data]; rfl
          have hs2 : (!(bs rest).toList == []) = false := by rw [hs, Lib.toList_data]; rfl
          obtain ⟨sr, hsr⟩ : ∃ sr, sr = bs rest := ⟨_, rfl⟩
          rw [← hsr] at hs1 hs2 ⊢
          obtain ⟨d2, hd2⟩ : ∃ d2 : RpD, d2 = d := ⟨_, rfl⟩
          obtain ⟨W, hW⟩ : ∃ W, W = wr := ⟨_, rfl⟩
          have htr := HDS.out.tr
          have hbk := HDS.out.blk
          have hpoW := HDS.out.po
          obtain ⟨A4, n4, d4, hvp⟩ : ∃ A n c, vp = .slice A n c := by
            obtain ⟨A, c, e, -⟩ := hpoW.1.ints
            exact ⟨A, _, c, e⟩
          have HFAR : Hid (∀ W', Chg (fun k => k ≤ g) W W' → RpP W' d2 (.slice none 0 0) (.slice none 0 0) (.slice none 0 0) vp) := Lib.hid fun W' hW' => by
            rw [hd2]
            rw [hW] at hW'
            exact ⟨by rw [htr]; exact tr0_at W', (hpoW.far hW').1.ints⟩
          have hTW := HTR.out
          have hBW := HBR.out
          subst hvp hd2 hW
          clear hs hv hsr kv hpoW htr
          have HRT := Lib.hid (r37_Right (HFAR.out W (Chg.refl _ _)))
          unfold rpV at HRT
          have HBK := Lib.hid hbk
          have HTW := Lib.hid hTW
          have HBW := Lib.hid hBW
          obtain ⟨k0, k1, k2, k3, k4, k5, k6, k7, k8, k9, k10, k11⟩ := load_agg12 hbk
          clear hbk hTW hBW
          cases hrr : rightR d2 with
          | false =>
            have HPB : Hid (P = .ill) := Lib.hid (by rw [HP2.out, finR, if_neg (by rw [hrr]; decide)])
            rw [hrr] at HRT
            clear hrr
            go_wp2_with fail
            skip
            refine HRT.out.mono ?_
            rintro e w9 ⟨rfl, hb9⟩
            have hT9 := HTW.out.below hb9 HTW.out.lt
            have hB9 := HBW.out.trans (hb9.mono HBW.out.size)
            clear hb9 k0 k1 k2 k3 k4 k5 k6 k7 k8 k9 k10 k11
            obtain ⟨c0, c1, c2, c3, c4, c5, c6, c7, c8, c9, c10, c11⟩ := load_agg12 hT9
            have f0 := hT9.frozen 0
            have f1 := hT9.frozen 1
            have f2 := hT9.frozen 2
            have f3 := hT9.frozen 3
            have f4 := hT9.frozen 4
            have f5 := hT9.frozen 5
            have f6 := hT9.frozen 6
            have f7 := hT9.frozen 7
            have f8 := hT9.frozen 8
            have f9 := hT9.frozen 9
            have f10 := hT9.frozen 10
            have f11 := hT9.frozen 11
            have HT9 := Lib.hid hT9
            have HB9 := Lib.hid hB9
            clear hT9 hB9
            go_wp2_with fail
            clear f0 c0 f1 c1 f2 c2 f3 c3 f4 c4 f5 c5 f6 c6 f7 c7 f8 c8 f9 c9 f10 c10 f11 c11
            obtain ⟨p0, p1, p2, p3, p4, p5, p6, p7, p8, p9, p10, p11⟩ := load_agg12 (blk12 HT9.out (.int .i64 0) (.int .i64 0) (.int .i64 0) (.int .i64 0) (.slice none 0 0) (.slice none 0 0) (.slice none 0 0) (.int .i64 0) (.int .i64 0) (.int .i64 0) (.bool false) (.slice none 0 0))
            refine bodyPost_ret (v := .tuple #[.agg #[.int .i64 0, .int .i64 0, .int .i64 0, .int .i64 0, (.slice none 0 0), (.slice none 0 0), (.slice none 0 0), .int .i64 0, .int .i64 0, .int .i64 0, .bool false, (.slice none 0 0)], .int .i64 0, .int .i64 14]) (by simp [results, Tryz.results7, go_sem, p0, p1, p2, p3, p4, p5, p6, p7, p8, p9, p10, p11]) rfl ?_
            exact ⟨set12 HB9.out HGB.out _ _ _ _ _ _ _ _ _ _ _ _, (.slice none 0 0), (.slice none 0 0), (.slice none 0 0), (.slice none 0 0), by rw [HPB.out]; rfl, by rw [HPB.out]; exact rpP0 _⟩
          | true =>
            have HPB : Hid (P = .ok d2) := Lib.hid (by rw [HP2.out, finR, if_pos hrr])
            rw [hrr] at HRT
            clear hrr
            go_wp2_with fail
            skip
            refine HRT.out.mono ?_
            rintro e w9 ⟨rfl, hb9⟩
            have hT9 := HTW.out.below hb9 HTW.out.lt
            have hB9 := HBW.out.trans (hb9.mono HBW.out.size)
            have HFR : Hid (∀ W', Chg (fun k => k ≤ g) w9 W' → RpP W' d2 (.slice none 0 0) (.slice none 0 0) (.slice none 0 0) (.slice A4 n4 d4)) := Lib.hid fun W' hW' => HFAR.out W' ((Chg.of_below (S := fun k => k ≤ g) hb9).trans hW' (fun i hi => .inl hi))
            clear k0 k1 k2 k3 k4 k5 k6 k7 k8 k9 k10 k11
            obtain ⟨k0, k1, k2, k3, k4, k5, k6, k7, k8, k9, k10, k11⟩ := load_agg12 (HBK.out.below hb9 HBK.out.lt)
            obtain ⟨c0, c1, c2, c3, c4, c5, c6, c7, c8, c9, c10, c11⟩ := load_agg12 hT9
            have f0 := hT9.frozen 0
            have f1 := hT9.frozen 1
            have f2 := hT9.frozen 2
            have f3 := hT9.frozen 3
            have f4 := hT9.frozen 4
            have f5 := hT9.frozen 5
            have f6 := hT9.frozen 6
            have f7 := hT9.frozen 7
            have f8 := hT9.frozen 8
            have f9 := hT9.frozen 9
            have f10 := hT9.frozen 10
            have f11 := hT9.frozen 11
            have HT9 := Lib.hid hT9
            have HB9 := Lib.hid hB9
            clear hT9 hB9 hb9
            skip
            go_wp2_with fail
            clear f0 c0 f1 c1 f2 c2 f3 c3 f4 c4 f5 c5 f6 c6 f7 c7 f8 c8 f9 c9 f10 c10 f11 c11 k0 k1 k2 k3 k4 k5 k6 k7 k8 k9 k10 k11
            obtain ⟨p0, p1, p2, p3, p4, p5, p6, p7, p8, p9, p10, p11⟩ := load_agg12 (blk12 HT9.out (.int .i64 d2.verdict) (.int .i64 d2.depth) (.int .i64 d2.fault) (.int .i64 d2.place) (.slice none 0 0) (.slice none 0 0) (.slice none 0 0) (.int .i64 d2.tr.bad) (.int .i64 d2.calls) (.int .i64 d2.conf) (.bool d2.spent) (.slice A4 n4 d4))
            refine bodyPost_ret (v := .tuple #[.agg #[.int .i64 d2.verdict, .int .i64 d2.depth, .int .i64 d2.fault, .int .i64 d2.place, (.slice none 0 0), (.slice none 0 0), (.slice none 0 0), .int .i64 d2.tr.bad, .int .i64 d2.calls, .int .i64 d2.conf, .bool d2.spent, (.slice A4 n4 d4)], .int .i64 0, .int .i64 0]) (by simp [results, Tryz.results7, go_sem, p0, p1, p2, p3, p4, p5, p6, p7, p8, p9, p10, p11]) rfl ?_
            refine ⟨set12 HB9.out HGB.out _ _ _ _ _ _ _ _ _ _ _ _, (.slice none 0 0), (.slice none 0 0), (.slice none 0 0), (.slice A4 n4 d4), by rw [HPB.out]; rfl, ?_⟩
            rw [HPB.out]
            exact HFR.out _ ((chg12 _ _ _ _ _ _ _ _ _ _ _ _ _ _).mono (fun i hi => by rw [hi]; have := HG1.out; omega))
        · have HPB : Hid (P = .bad 7) := Lib.hid (by rw [HPE.out, endR, if_neg hv, if_neg hs])
          have hs1 : (!(bs rest).toList.isEmpty) = true := by rw [Lib.toList_data, bs_list]; simpa using hs
          have hs2 : (!(bs rest).toList == []) = true := by rw [Lib.toList_data, bs_list]; simpa using hs
          obtain ⟨sr, hsr⟩ : ∃ sr, sr = bs rest := ⟨_, rfl⟩
          rw [← hsr] at hs1 hs2 ⊢
          have hT9 := HTR.out
          have hB9 := HBR.out
          clear hs hv hsr
          obtain ⟨c0, c1, c2, c3, c4, c5, c6, c7, c8, c9, c10, c11⟩ := load_agg12 hT9
          have f0 := hT9.frozen 0
          have f1 := hT9.frozen 1
          have f2 := hT9.frozen 2
          have f3 := hT9.frozen 3
          have f4 := hT9.frozen 4
          have f5 := hT9.frozen 5
          have f6 := hT9.frozen 6
          have f7 := hT9.frozen 7
          have f8 := hT9.frozen 8
          have f9 := hT9.frozen 9
          have f10 := hT9.frozen 10
          have f11 := hT9.frozen 11
          have HT9 := Lib.hid hT9
          have HB9 := Lib.hid hB9
          clear hT9 hB9
          go_wp2_with fail
          clear f0 c0 f1 c1 f2 c2 f3 c3 f4 c4 f5 c5 f6 c6 f7 c7 f8 c8 f9 c9 f10 c10 f11 c11
          obtain ⟨p0, p1, p2, p3, p4, p5, p6, p7, p8, p9, p10, p11⟩ := load_agg12 (blk12 HT9.out (.int .i64 0) (.int .i64 0) (.int .i64 0) (.int .i64 0) (.slice none 0 0) (.slice none 0 0) (.slice none 0 0) (.int .i64 0) (.int .i64 0) (.int .i64 0) (.bool false) (.slice none 0 0))
          refine bodyPost_ret (v := .tuple #[.agg #[.int .i64 0, .int .i64 0, .int .i64 0, .int .i64 0, (.slice none 0 0), (.slice none 0 0), (.slice none 0 0), .int .i64 0, .int .i64 0, .int .i64 0, .bool false, (.slice none 0 0)], .int .i64 7, .int .i64 2]) (by simp [results, Tryz.results7, go_sem, p0, p1, p2, p3, p4, p5, p6, p7, p8, p9, p10, p11]) rfl ?_
          exact ⟨set12 HB9.out HGB.out _ _ _ _ _ _ _ _ _ _ _ _, (.slice none 0 0), (.slice none 0 0), (.slice none 0 0), (.slice none 0 0), by rw [HPB.out]; rfl, by rw [HPB.out]; exact rpP0 _⟩
end Go.Proofs.YtamgbfkpblpfiaaGreatDoor
/-
  The law ReportParses, walked.
-/
namespace Go.Proofs.YtamgbfkpblpfiaaGreatDoor
open Go.ChangeShapes Go.WideShapes Go.ChangeAt Go.RowKit
set_option linter.unusedVariables false
set_option linter.unusedSimpArgs false
theorem bs_data' (s : ByteArray) : bs s.data.toList = s := by
  apply ByteArray.ext
  simp [bs]
theorem sameR_self (d : RpD) : sameR d d = true := by unfold sameR sameT; simp
set_option maxHeartbeats 8000000 in
set_option maxRecDepth 100000 in
theorem claw_rparses {w : World} (ht : Tab w) (hL : Laid w) (hm : MaxL w) (s : ByteArray) (hs : s.size ≤ 9223372036854775807) : Calls Tryz.prog 3 #[.string s] w fun e w' => e = .returned (.bool true) ∧ Below w.heap.size w w' := by
  by_cases hl : (2000 : Int) < (s.size : Int)
  · have HA := Lib.hid (alive_ ht)
    clear ht hL hm
    go_enter Tryz.func3, Tryz.ntmps3
    go_wp2_with fail
    refine HA.out.mono ?_
    rintro e w1 ⟨rfl, hb⟩
    go_wp2
    go_ret
    exact ⟨rfl, hb⟩
  · obtain ⟨l, hll⟩ : ∃ l, l = s.data.toList := ⟨_, rfl⟩
    have hlen : l.length ≤ 50000 := by rw [hll, Array.length_toList]; have : s.data.size = s.size := rfl; omega
    have hsb : bs l = s := by rw [hll]; exact bs_data' s
    have HP1 := Lib.hid (report_Parse hm hL hlen)
    have HP2 := Lib.hid (fun W => r37_Parse (w := W) hlen)
    rw [hsb] at HP1 HP2
    obtain ⟨P, hP⟩ : ∃ P, P = parseR l := ⟨_, rfl⟩
    rw [← hP] at HP1 HP2
    have HT := Lib.hid ht
    clear ht hL hm hsb hll hlen hP
    go_enter Tryz.func3, Tryz.ntmps3
    go_wp2_with fail
    refine HP1.out.mono ?_
    rintro e w1 ⟨hb1, vl, vm, vi, vp, rfl, hT1⟩
    have hS := Lib.hid (sameR_self (resRD P))
    obtain ⟨d, hd⟩ : ∃ d, d = resRD P := ⟨_, rfl⟩
    obtain ⟨n, hn⟩ : ∃ n : Int, n = (resRN P : Nat) := ⟨_, rfl⟩
    obtain ⟨f, hf⟩ : ∃ f, f = resRF P := ⟨_, rfl⟩
    unfold ParseRQ at HP2
    rw [← hd] at hT1 hS HP2 ⊢
    rw [← hn, ← hf]
    rw [← hn, ← hf] at HP2
    clear hd hn hf
    obtain ⟨a1, c1, hv1⟩ := hT1.tr.lat.len
    obtain ⟨a2, c2, hv2, -, -⟩ := hT1.tr.mems.form
    obtain ⟨a3, c3, hv3, -, -⟩ := hT1.tr.ins.form
    obtain ⟨a4, c4, hv4, -⟩ := hT1.ports
    obtain ⟨w2, hw2⟩ : ∃ w2, w2 = w1.alloc (.cells (rpA d vl vm vi vp) 33) := ⟨_, rfl⟩
    have hB2 : Below w1.heap.size w1 w2 := by rw [hw2]; exact (Below.refl _ w1).alloc (Nat.le_refl _) _
    have hk2 : Blk w2 w1.heap.size 33 (rpA d vl vm vi vp) := by rw [hw2]; exact Blk.new w1 _ _
    have HT2 := Lib.hid (hT1.below hB2)
    have HB2 := Lib.hid (hb1.trans (hB2.mono hb1.size))
    unfold rpA at hw2 hk2
    subst hv1 hv2 hv3 hv4
    have HK2 := Lib.hid hk2
    have HW2 := Lib.hid hw2
    clear hT1 hB2 hk2 hw2 hb1
    unfold rpV
    obtain ⟨n1, hn1⟩ : ∃ n, n = d.tr.lat.length := ⟨_, rfl⟩
    obtain ⟨n2, hn2⟩ : ∃ n, n = d.tr.mems.length := ⟨_, rfl⟩
    obtain ⟨n3, hn3⟩ : ∃ n, n = d.tr.ins.length := ⟨_, rfl⟩
    obtain ⟨n4, hn4⟩ : ∃ n, n = d.ports.length := ⟨_, rfl⟩
    rw [← hn1, ← hn2, ← hn3, ← hn4]
    rw [← hn1, ← hn2, ← hn3, ← hn4] at HK2 HW2 HT2
    have HN := Lib.hid (show _ ∧ _ ∧ _ ∧ _ from ⟨hn1, hn2, hn3, hn4⟩)
    clear hn1 hn2 hn3 hn4
    go_wp2_with fail
    rw [← HW2.out]
    refine (HP2.out _).mono ?_
    rintro e w3 ⟨hb3, ul, um, ui, up, rfl, hT3⟩
    obtain ⟨b1, e1, hu1⟩ := hT3.tr.lat.len
    obtain ⟨b2, e2, hu2, -, -⟩ := hT3.tr.mems.form
    obtain ⟨b3, e3, hu3, -, -⟩ := hT3.tr.ins.form
    obtain ⟨b4, e4, hu4, -⟩ := hT3.ports
    obtain ⟨w4, hw4⟩ : ∃ w4, w4 = w3.alloc (.cells (rpA d ul um ui up) 33) := ⟨_, rfl⟩
    have hB4 : Below w3.heap.size w3 w4 := by rw [hw4]; exact (Below.refl _ w3).alloc (Nat.le_refl _) _
    have hk4 : Blk w4 w3.heap.size 33 (rpA d ul um ui up) := by rw [hw4]; exact Blk.new w3 _ _
    have hB24 := hb3.trans (hB4.mono hb3.size)
    have hS5 := r37_Same (HT2.out.below hB24) (hT3.below hB4)
    unfold rpV at hS5
    unfold rpA at hw4 hk4
    subst hu1 hu2 hu3 hu4
    rw [hS.out] at hS5
    obtain ⟨z1, z2, z3, z4⟩ := HN.out
    rw [← z1, ← z2, ← z3, ← z4] at hw4 hk4 hS5
    have HS5 := Lib.hid hS5
    have HW4 := Lib.hid hw4
    obtain ⟨k0, k1, k2, k3, k4, k5, k6, k7, k8, k9, k10, k11⟩ := load_agg12 (HK2.out.below hB24 HK2.out.lt)
    obtain ⟨m0, m1, m2, m3, m4, m5, m6, m7, m8, m9, m10, m11⟩ := load_agg12 hk4
    have HB4 := Lib.hid (HB2.out.trans (hB24.mono HB2.out.size))
    clear hT3 hb3 hB4 hk4 hB24 hw4 hS5
    unfold rpV
    rw [← z1, ← z2, ← z3, ← z4]
    clear z1 z2 z3 z4
    rw [HW4.out] at k0 k1 k2 k3 k4 k5 k6 k7 k8 k9 k10 k11 m0 m1 m2 m3 m4 m5 m6 m7 m8 m9 m10 m11
    go_wp2_with fail
    rw [← HW4.out]
    refine HS5.out.mono ?_
    rintro e w5 ⟨rfl, hb5⟩
    have HB5 := Lib.hid (HB4.out.trans (hb5.mono HB4.out.size))
    have HAL := Lib.hid (alive_ (HT.out.below HB5.out))
    clear hb5 k0 k1 k2 k3 k4 k5 k6 k7 k8 k9 k10 k11 m0 m1 m2 m3 m4 m5 m6 m7 m8 m9 m10 m11
    go_wp2_with fail
    refine HAL.out.mono ?_
    rintro e w6 ⟨rfl, hb6⟩
    have HB6 := Lib.hid (HB5.out.trans (hb6.mono HB5.out.size))
    clear hb6
    go_wp2
    go_ret
    exact ⟨rfl, HB6.out⟩
end Go.Proofs.YtamgbfkpblpfiaaGreatDoor
