/-
  Chapter 40: the document's Bits and Numbers, both Widths, walked.
-/
import Derived.Test.YtlahecdpcpejpaaDoorFkC
namespace Go.Proofs.YtlahecdpcpejpaaDoor
open Go Go.ChangeShapes Go.WideShapes Go.ChangeAt Go.RowKit
set_option linter.unusedVariables false
set_option linter.unusedSimpArgs false
attribute [local go_sem ↓] Go.wp_at_zero Go.wp_at_succ
theorem sound_mem {d : NetD} (h : soundN d = 0) : ∀ m ∈ d.mems, 1 ≤ m.addr ∧ m.addr ≤ 62 ∧ 1 ≤ m.word ∧ m.word ≤ 64 := fun m hm => by
  unfold soundN at h
  by_cases h1 : limitsN d = true
  · rw [if_pos h1] at h; cases h
  rw [if_neg h1] at h
  by_cases h2 : d.mems.any wideN = true
  · rw [if_pos h2] at h; cases h
  have : wideN m = false := by
    cases hb : wideN m
    · rfl
    · exact absurd (List.any_eq_true.2 ⟨m, hm, hb⟩) h2
  unfold wideN at this
  rw [Bool.or_eq_false_iff, Bool.or_eq_false_iff] at this
  have := of_decide_eq_false this.1.1
  omega
set_option maxHeartbeats 4000000 in
set_option maxRecDepth 100000 in
theorem r05_Bits {w : World} {d : NetD} {vi vl vo vb vc vm va : Value} (h : NetP w d vi vl vo vb vc vm va) (hl0 : lightN d = true) (h0 : soundN d = 0) :
    Calls Tryd.prog 50 #[netV d vi vl vo vb vc vm va] w fun e w' => ∃ z : Int, e = .returned (.int .i64 z) ∧ Below w.heap.size w w' := by
  obtain ⟨ai, ci, ni, al, cl, nl, ao, co, no, ab, cb, nb, ac, cc, nc, am, cm, nm, aa, ca, na, rfl, rfl, rfl, rfl, rfl, rfl, rfl, HN, HC⟩ := h.open_ (lightN_iff hl0).1
  obtain ⟨⟨i1, i2, i3⟩, ⟨l1, l2, l3⟩, ⟨o1, o2, o3⟩, ⟨b1, b2, b3⟩, ⟨c1, c2, c3⟩, ⟨m1, m2, m3⟩, ⟨a1, a2, a3⟩⟩ := HC
  obtain ⟨wb, hwb⟩ : ∃ wb, wb = w.alloc (.cells #[.int .i64 d.vars, .slice ai ni ci, .slice al nl cl, .slice ao no co, .slice ab nb cb, .slice ac nc cc, .slice am nm cm, .slice aa na ca] 28) := ⟨_, rfl⟩
  obtain ⟨bx, hbx⟩ : ∃ bx, bx = w.heap.size := ⟨_, rfl⟩
  have HB1 : Hid (Below w.heap.size w wb) := Lib.hid (by rw [hwb]; exact below_new1 w _)
  have HBX : Hid (NBox wb bx d (.slice ai ni ci) (.slice al nl cl) (.slice ao no co) (.slice ab nb cb) (.slice ac nc cc) (.slice am nm cm) (.slice aa na ca)) := Lib.hid (by rw [hwb, hbx]; exact NBox.new w _ _ _ _ _ _ _ _)
  have HP := Lib.hid (h.below HB1.out)
  have HSM := Lib.hid (sound_mem h0)
  unfold netV
  have HWB := Lib.hid hwb
  have HBE := Lib.hid hbx
  have c2x := HBX.out.c2
  have c6x := HBX.out.c6
  clear h hl0 h0 hwb hbx
  go_enter Tryd.func50, Tryd.ntmps50
  go_wp2_with fail
  rw [← HWB.out, ← HBE.out]
  go_loopw [3, 4] (fun b i wr => ∃ (k : Nat) (z : Int), k ≤ nm ∧ i = .int .i64 (k : Nat) ∧ b = .int .i64 z ∧ wr = wb) (fun _ i _ => nm - (intOf i).toNat)
  case atStart => exact ⟨0, _, Nat.zero_le _, rfl, rfl, rfl⟩
  case round =>
    obtain ⟨k, z, hk, rfl, rfl, rfl⟩ := hrel
    by_cases hlt : (k : Int) < (nm : Int)
    · have hkn : k < d.mems.length := by have := HN.out.mems; omega
      obtain ⟨b, off, cap', he, hone⟩ := HP.out.mems.at_ hkn
      injection he with e1 e2 e3
      subst e1
      obtain ⟨q0, q1, -⟩ := hone
      obtain ⟨hA1, hA2, hA3, hA4⟩ := HSM.out (d.mems.getD k mem0) (by rw [List.getD_eq_getElem?_getD, List.getElem?_eq_getElem hkn]; exact List.getElem_mem hkn)
      generalize (d.mems.getD k mem0).addr = ad at *
      generalize (d.mems.getD k mem0).word = wd at *
      clear e2 e3 hkn
      go_wp2
      go_loopw [5, 6] (fun mv jv wy => ∃ (t : Nat) (y : Int), t ≤ 62 ∧ jv = .int .i64 (t : Nat) ∧ mv = .int .i64 y ∧ wy = wr) (fun _ jv _ => 62 - (intOf jv).toNat)
      case atStart => exact ⟨0, _, by omega, rfl, rfl, rfl⟩
      case round =>
        obtain ⟨t, y, ht, rfl, rfl, rfl⟩ := hrel
        by_cases hta : (t : Int) < ad
        · by_cases hy : y < 1000
          · go_wp2
            go_roundw
            case rel => exact ⟨t + 1, _, by omega, by go_num, rfl, trivial⟩
            case measure => simp [intOf]; omega
          · go_wp2
            go_roundw
            case rel => exact ⟨k + 1, _, by omega, by go_num, rfl, trivial⟩
            case measure => simp [intOf]; omega
        · go_wp2
          go_roundw
          case rel => exact ⟨k + 1, _, by omega, by go_num, rfl, trivial⟩
          case measure => simp [intOf]; omega
    · go_wp2
      go_ret
      exact ⟨⟨_, rfl⟩, HB1.out⟩
theorem cells_out {w : World} {b rs : Nat} (h : b ≠ rs) (o : Nat) (vs : List Value) (k : Nat) : (w.setCells rs o vs).cell? ⟨b, k, none⟩ = w.cell? ⟨b, k, none⟩ :=
  World.cell?_setCells_out rs vs o w ⟨b, k, none⟩ fun e => absurd e h
theorem below_setC {B : Nat} {w : World} {rs : Nat} (hB : B ≤ rs) (vs : List Value) (o : Nat) : Below B w (w.setCells rs o vs) := Go.below_setCells hB vs o w (Below.refl _ _)
theorem blk_there {w : World} {rs : Nat} {t : TypeId} {a0 a1 a2 a3 a4 a5 a6 a7 a8 a9 : Value} (h : Blk w rs t #[a0, a1, a2, a3, a4, a5, a6, a7, a8, a9]) : w.there rs 0 10 := fun j hj => by
  refine ⟨?_, h.frozen (0 + j)⟩
  rw [h.cell (0 + j)]
  have : j = 0 ∨ j = 1 ∨ j = 2 ∨ j = 3 ∨ j = 4 ∨ j = 5 ∨ j = 6 ∨ j = 7 ∨ j = 8 ∨ j = 9 := by omega
  rcases this with e | e | e | e | e | e | e | e | e | e <;> subst e <;> rfl
theorem ten_one (a0 a1 a2 a3 a4 a5 a6 a7 a8 a9 : Int) : ∀ v, v ∈ ([.int .i64 a0, .int .i64 a1, .int .i64 a2, .int .i64 a3, .int .i64 a4, .int .i64 a5, .int .i64 a6, .int .i64 a7, .int .i64 a8, .int .i64 a9] : List Value) → v.oneCell' = true := fun v hv => by
  simp at hv
  rcases hv with e | e | e | e | e | e | e | e | e | e <;> rw [e] <;> rfl
/-- What the document's Numbers tell: the eighth is the greatest level. -/
def NumQ (w : World) (d : NetD) (e : Ending) (w' : World) : Prop :=
  ∃ a0 a1 a2 a3 a4 a5 a6 a7 a9 : Int, e = .returned (.agg #[.int .i64 a0, .int .i64 a1, .int .i64 a2, .int .i64 a3, .int .i64 a4, .int .i64 a5, .int .i64 a6, .int .i64 a7, .int .i64 (mx0 (levL d) (levL d).length), .int .i64 a9]) ∧ Below w.heap.size w w'
set_option maxHeartbeats 8000000 in
set_option maxRecDepth 100000 in
theorem r40_Numbers {w : World} {d : NetD} {vi vl vo vb vc vm va : Value} (h : NetP w d vi vl vo vb vc vm va) (hl0 : lightN d = true) (hc0 : checkN d = 0) :
    Calls Tryd.prog 35 #[netV d vi vl vo vb vc vm va] w (NumQ w d) := by
  obtain ⟨ai, ci, ni, al, cl, nl, ao, co, no, ab, cb, nb, ac, cc, nc, am, cm, nm, aa, ca, na, rfl, rfl, rfl, rfl, rfl, rfl, rfl, HN, HC⟩ := h.open_ (lightN_iff hl0).1
  obtain ⟨⟨i1, i2, i3⟩, ⟨l1, l2, l3⟩, ⟨o1, o2, o3⟩, ⟨b1, b2, b3⟩, ⟨c1, c2, c3⟩, ⟨m1, m2, m3⟩, ⟨a1, a2, a3⟩⟩ := HC
  obtain ⟨h0, V, hs, hA⟩ := good_iff.1 hc0
  obtain ⟨wS, hwS⟩ : ∃ wS, wS = (w.alloc (.cells #[.int .i64 d.vars, .slice ai ni ci, .slice al nl cl, .slice ao no co, .slice ab nb cb, .slice ac nc cc, .slice am nm cm, .slice aa na ca] 28)).alloc (.cells #[.int .i64 0, .int .i64 0, .int .i64 0, .int .i64 0, .int .i64 0, .int .i64 0, .int .i64 0, .int .i64 0, .int .i64 0, .int .i64 0] 22) := ⟨_, rfl⟩
  obtain ⟨bx, hbx⟩ : ∃ bx, bx = w.heap.size := ⟨_, rfl⟩
  obtain ⟨rs, hrs⟩ : ∃ rs, rs = w.heap.size + 1 := ⟨_, rfl⟩
  have HB1 : Hid (Below w.heap.size w wS) := Lib.hid (by rw [hwS]; exact below_new2 w _ _)
  have hbx1 : NBox wS bx d (.slice ai ni ci) (.slice al nl cl) (.slice ao no co) (.slice ab nb cb) (.slice ac nc cc) (.slice am nm cm) (.slice aa na ca) := by rw [hwS, hbx]; exact (NBox.new w _ _ _ _ _ _ _ _).later (below_new1 _ _)
  have hr1 : Blk wS rs 22 #[.int .i64 0, .int .i64 0, .int .i64 0, .int .i64 0, .int .i64 0, .int .i64 0, .int .i64 0, .int .i64 0, .int .i64 0, .int .i64 0] := by
    have e : rs = (w.alloc (.cells #[.int .i64 d.vars, .slice ai ni ci, .slice al nl cl, .slice ao no co, .slice ab nb cb, .slice ac nc cc, .slice am nm cm, .slice aa na ca] 28)).heap.size := by rw [hrs]; simp
    rw [hwS, e]; exact Blk.new _ _ _
  have HBX := Lib.hid hbx1
  have HRB := Lib.hid hr1
  have HP := Lib.hid (h.below HB1.out)
  have hlev := (r06_Levels HP.out hl0).mono (fun e w' h => LvQ.u h)
  have hbits : ∀ W, Below wS.heap.size wS W → _ := fun W hW => r05_Bits (HP.out.below hW) hl0 h0
  unfold netV at hlev hbits ⊢
  have HLEV := Lib.hid hlev
  have HBITS := Lib.hid hbits
  have HG : Hid (goodB d = true) := Lib.hid (goodB_yes hc0)
  have HLL : Hid ((levL d).length = V + 1) := Lib.hid (by
    have hv := hs.vars
    unfold levL
    rw [if_pos hc0, List.length_map, List.length_range, hv]; rfl)
  have hV2 := hs.lim
  have HWS := Lib.hid hwS
  have HBE := Lib.hid hbx
  have HNE : Hid (bx ≠ rs) := Lib.hid (by omega)
  have HRE : Hid (rs = bx + 1) := Lib.hid (by rw [hrs, hbx])
  obtain ⟨c0, c1x, c2x, c3x, c4, c5, c6, c7⟩ := hbx1.all
  clear hwS hbx hrs hbx1 hr1 h hl0 hc0 h0 hs hA hlev hbits
  go_enter Tryd.func35, Tryd.ntmps35
  go_wp2_with fail
  rw [← HWS.out, ← HBE.out, ← HRE.out]
  go_loopw [3, 4, 5] (fun r s i wr => ∃ (k : Nat) (y z : Int), k ≤ nm ∧ i = .int .i64 (k : Nat) ∧ r = .int .i64 y ∧ s = .int .i64 z ∧ wr = wS) (fun _ _ i _ => nm - (intOf i).toNat)
  case atStart => exact ⟨0, _, _, Nat.zero_le _, rfl, rfl, rfl, rfl⟩
  case round =>
    obtain ⟨k, y, z, hk, rfl, rfl, rfl, rfl⟩ := hrel
    by_cases hlt : (k : Int) < (nm : Int)
    · have hkn : k < d.mems.length := by have := HN.out.mems; omega
      obtain ⟨b, off, cap', he, hone⟩ := HP.out.mems.at_ hkn
      injection he with e1 e2 e3
      subst e1
      obtain ⟨-, -, -, ⟨u3, q3, s3⟩, u4, q4, s4⟩ := hone
      obtain ⟨ra, rc, hr3, -, -⟩ := s3.form
      obtain ⟨wa, wc, hw4, -, -⟩ := s4.form
      generalize (d.mems.getD k mem0).rd.length = n3 at hr3
      generalize (d.mems.getD k mem0).wr.length = n4 at hw4
      subst hr3 hw4
      clear e2 e3 hkn s3 s4
      go_wp2
      go_roundw
      case rel => exact ⟨k + 1, _, _, by omega, by go_num, rfl, rfl, trivial⟩
      case measure => simp [intOf]; omega
    · go_wp2_with fail
      refine HLEV.out.mono ?_
      rintro e w2 ⟨u, rfl, hi2, hb2⟩
      rw [HG.out]
      obtain ⟨L, hL⟩ : ∃ L, L = levL d := ⟨_, rfl⟩
      rw [← hL] at hi2 HLL
      have HL := Lib.hid hL
      obtain ⟨ua, uc, hue, u1, u2⟩ := hi2.form2
      rw [HLL.out] at hue
      subst hue
      have HI2 := Lib.hid hi2
      have HB2 := Lib.hid hb2
      have hx2 := HBX.out.later hb2
      have HX2 := Lib.hid hx2
      clear c0 c1x c2x c3x c4 c5 c6 c7
      obtain ⟨c0, c1x, c2x, c3x, c4, c5, c6, c7⟩ := hx2.all
      clear hi2 hb2 hx2 hL u1 u2
      go_wp2
      go_loopw [8, 9] (fun m i wy => ∃ k : Nat, k ≤ V + 1 ∧ i = .int .i64 (k : Nat) ∧ m = .int .i64 (mx0 L k) ∧ wy = w2) (fun _ i _ => V + 1 - (intOf i).toNat)
      case atStart => exact ⟨0, Nat.zero_le _, rfl, rfl, rfl⟩
      case round =>
        obtain ⟨j, hj, rfl, rfl, rfl⟩ := hrel
        by_cases hlj : (j : Int) < (V : Int) + 1
        · obtain ⟨b2, off2, cap3, hv, ck⟩ := HI2.out.at2 (k := j) (by rw [HLL.out]; omega)
          injection hv with e1 e2 e3
          subst e1
          have hm : mx0 L (j + 1) = max (mx0 L j) (L.getD j 0) := rfl
          have HM := Lib.hid hm
          generalize L.getD j 0 = x at *
          generalize mx0 L j = a at *
          clear hm e2 e3
          by_cases hab : a < x
          · have hm1 : max a x = x := by omega
            go_wp2
            go_roundw
            case rel => exact ⟨j + 1, by omega, by go_num, by rw [HM.out, Int.max_eq_right (by omega)], trivial⟩
            case measure => simp [intOf]; omega
          · have hm1 : max a x = a := by omega
            go_wp2
            go_roundw
            case rel => exact ⟨j + 1, by omega, by go_num, by rw [HM.out, Int.max_eq_left (by omega)], trivial⟩
            case measure => simp [intOf]; omega
        · obtain ⟨a, ha⟩ : ∃ a, a = mx0 L j := ⟨_, rfl⟩
          rw [← ha]
          have HA : Hid (a = mx0 (levL d) (levL d).length) := Lib.hid (by rw [ha, ← HL.out, HLL.out, show j = V + 1 by omega])
          clear ha
          have HRB2 := Lib.hid (HRB.out.below HB2.out HRB.out.lt)
          have HBW : Hid (Below w.heap.size w wr) := Lib.hid (HB1.out.trans (HB2.out.mono HB1.out.size))
          go_wp2
          go_region_held3 (fun w' => w'.cell? ⟨bx, 0, none⟩ = some (.int .i64 d.vars) ∧ w'.cell? ⟨bx, 1, none⟩ = some (.slice ai ni ci) ∧ w'.cell? ⟨bx, 2, none⟩ = some (.slice al nl cl) ∧ w'.cell? ⟨bx, 3, none⟩ = some (.slice ao no co) ∧ w'.cell? ⟨bx, 4, none⟩ = some (.slice ab nb cb) ∧ w'.cell? ⟨bx, 5, none⟩ = some (.slice ac nc cc) ∧ w'.cell? ⟨bx, 6, none⟩ = some (.slice am nm cm) ∧ w'.cell? ⟨bx, 7, none⟩ = some (.slice aa na ca)) (first | (with_reducible exact HDD.out) | go_keep) (first
            | (go_at_call 50; refine (HBITS.out _ (by first | exact HB2.out | exact HB2.out.drew)).mono ?_; rintro e w3 ⟨zb, rfl, hb3⟩; have hb3 : Below wr.heap.size wr w3 := (by first | exact ((Below.refl _ wr).drew).trans hb3 | exact hb3); have HB3 := Lib.hid hb3; have hx3 := HX2.out.later hb3; have hr3 := HRB2.out.below hb3 HRB2.out.lt; have HR3 := Lib.hid hr3; have c0 : w3.cell? ⟨bx, 0, none⟩ = some (.int .i64 d.vars) := hx3.c0; have c1 : w3.cell? ⟨bx, 1, none⟩ = some (.slice ai ni ci) := hx3.c1; have c2 : w3.cell? ⟨bx, 2, none⟩ = some (.slice al nl cl) := hx3.c2; have c3 : w3.cell? ⟨bx, 3, none⟩ = some (.slice ao no co) := hx3.c3; have c4 : w3.cell? ⟨bx, 4, none⟩ = some (.slice ab nb cb) := hx3.c4; have c5 : w3.cell? ⟨bx, 5, none⟩ = some (.slice ac nc cc) := hx3.c5; have c6 : w3.cell? ⟨bx, 6, none⟩ = some (.slice am nm cm) := hx3.c6; have c7 : w3.cell? ⟨bx, 7, none⟩ = some (.slice aa na ca) := hx3.c7; have ho : ∀ v, v ∈ ([.int .i64 (ni : Nat), .int .i64 (nl : Nat), .int .i64 (na : Nat), .int .i64 (nm : Nat), .int .i64 y, .int .i64 z, .int .i64 (nb : Nat), .int .i64 (nc : Nat), .int .i64 a, .int .i64 zb] : List Value) → v.oneCell' = true := ten_one _ _ _ _ _ _ _ _ _ _; have hth : w3.there rs 0 ([.int .i64 (ni : Nat), .int .i64 (nl : Nat), .int .i64 (na : Nat), .int .i64 (nm : Nat), .int .i64 y, .int .i64 z, .int .i64 (nb : Nat), .int .i64 (nc : Nat), .int .i64 a, .int .i64 zb] : List Value).length := blk_there hr3; have hsz : (Tryd.prog.info? 22).map (fun x => x.size) = some ([.int .i64 (ni : Nat), .int .i64 (nl : Nat), .int .i64 (na : Nat), .int .i64 (nm : Nat), .int .i64 y, .int .i64 z, .int .i64 (nb : Nat), .int .i64 (nc : Nat), .int .i64 a, .int .i64 zb] : List Value).length := (by kernel_rfl); have HDD : Hid ((fun w' : World => w'.cell? ⟨bx, 0, none⟩ = some (.int .i64 d.vars) ∧ w'.cell? ⟨bx, 1, none⟩ = some (.slice ai ni ci) ∧ w'.cell? ⟨bx, 2, none⟩ = some (.slice al nl cl) ∧ w'.cell? ⟨bx, 3, none⟩ = some (.slice ao no co) ∧ w'.cell? ⟨bx, 4, none⟩ = some (.slice ab nb cb) ∧ w'.cell? ⟨bx, 5, none⟩ = some (.slice ac nc cc) ∧ w'.cell? ⟨bx, 6, none⟩ = some (.slice am nm cm) ∧ w'.cell? ⟨bx, 7, none⟩ = some (.slice aa na ca)) (w3.setCells rs 0 [.int .i64 (ni : Nat), .int .i64 (nl : Nat), .int .i64 (na : Nat), .int .i64 (nm : Nat), .int .i64 y, .int .i64 z, .int .i64 (nb : Nat), .int .i64 (nc : Nat), .int .i64 a, .int .i64 zb])) := Lib.hid ⟨(cells_out HNE.out _ _ _).trans c0, (cells_out HNE.out _ _ _).trans c1, (cells_out HNE.out _ _ _).trans c2, (cells_out HNE.out _ _ _).trans c3, (cells_out HNE.out _ _ _).trans c4, (cells_out HNE.out _ _ _).trans c5, (cells_out HNE.out _ _ _).trans c6, (cells_out HNE.out _ _ _).trans c7⟩; clear hb3 hx3 hr3))
          obtain ⟨WF, hWF⟩ : ∃ WF, WF = w3.setCells rs 0 [.int .i64 (ni : Nat), .int .i64 (nl : Nat), .int .i64 (na : Nat), .int .i64 (nm : Nat), .int .i64 y, .int .i64 z, .int .i64 (nb : Nat), .int .i64 (nc : Nat), .int .i64 a, .int .i64 zb] := ⟨_, rfl⟩
          have hin := World.cell?_setCells_in rs [.int .i64 (ni : Nat), .int .i64 (nl : Nat), .int .i64 (na : Nat), .int .i64 (nm : Nat), .int .i64 y, .int .i64 z, .int .i64 (nb : Nat), .int .i64 (nc : Nat), .int .i64 a, .int .i64 zb] 0 w3 (fun j hj => (hth j hj).1)
          rw [← hWF] at hin
          have z0 : WF.cell? ⟨rs, 0, none⟩ = some (.int .i64 (ni : Nat)) := hin 0 (by simp)
          have z1 : WF.cell? ⟨rs, 1, none⟩ = some (.int .i64 (nl : Nat)) := hin 1 (by simp)
          have z2 : WF.cell? ⟨rs, 2, none⟩ = some (.int .i64 (na : Nat)) := hin 2 (by simp)
          have z3 : WF.cell? ⟨rs, 3, none⟩ = some (.int .i64 (nm : Nat)) := hin 3 (by simp)
          have z4 : WF.cell? ⟨rs, 4, none⟩ = some (.int .i64 y) := hin 4 (by simp)
          have z5 : WF.cell? ⟨rs, 5, none⟩ = some (.int .i64 z) := hin 5 (by simp)
          have z6 : WF.cell? ⟨rs, 6, none⟩ = some (.int .i64 (nb : Nat)) := hin 6 (by simp)
          have z7 : WF.cell? ⟨rs, 7, none⟩ = some (.int .i64 (nc : Nat)) := hin 7 (by simp)
          have z8 : WF.cell? ⟨rs, 8, none⟩ = some (.int .i64 a) := hin 8 (by simp)
          have z9 : WF.cell? ⟨rs, 9, none⟩ = some (.int .i64 zb) := hin 9 (by simp)
          have hLF : Below w.heap.size w WF := by
            rw [hWF]
            exact (HBW.out.trans (HB3.out.mono HBW.out.size)).trans (below_setC (by rw [HRE.out, HBE.out]; omega) _ _)
          have HLF := Lib.hid hLF
          rw [← hWF]
          clear ho hth hsz hin hWF hLF HDD c0 c1x c2x c3x c4 c5 c6 c7
          go_wp2
          try rw [Exit.noGoto_ret]
          refine bodyPost_ret (v := .agg #[.int .i64 (ni : Nat), .int .i64 (nl : Nat), .int .i64 (na : Nat), .int .i64 (nm : Nat), .int .i64 y, .int .i64 z, .int .i64 (nb : Nat), .int .i64 (nc : Nat), .int .i64 a, .int .i64 zb])
            (by simp [results, Tryd.results35, go_sem, z0, z1, z2, z3, z4, z5, z6, z7, z8, z9]) rfl ⟨_, _, _, _, _, _, _, _, _, by rw [← HA.out], HLF.out⟩
end Go.Proofs.YtlahecdpcpejpaaDoor
