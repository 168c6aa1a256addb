/-
  The document's Levels, Check, walked.
-/
import Derived.Test.YtgnimegdgphlmaaR6B
import Derived.Test.YtgnimegdgphlmaaNetJ
namespace Go.Proofs.Ytgnimegdgphlmaa
open Go.ChangeShapes Go.WideShapes Go.ChangeAt Go.RowKit
set_option linter.unusedVariables false
set_option linter.unusedSimpArgs false
attribute [local go_sem ↓] Go.wp_at_zero Go.wp_at_succ
/-- What the document's Levels tells. -/
def LvQ (w : World) (d : NetD) (e : Ending) (w' : World) : Prop :=
  Below w.heap.size w w' ∧
  ((soundN d ≠ 0 ∧ e = .returned (.tuple #[.slice none 0 0, .bool false])) ∨
   (soundN d = 0 ∧ ∃ V, SoundD d V ∧ ((¬ Acyc (nodesN d) V ∧ e = .returned (.tuple #[.slice none 0 0, .bool false])) ∨
     ∃ bl, ∃ o : Int → Int, e = .returned (.tuple #[.slice (some ⟨bl, 0, none⟩) (V + 1) (V + 1), .bool true]) ∧ VBlk w' bl 3 (V + 1) (fun i => .int .i64 (o i)) ∧ w.heap.size ≤ bl ∧ ∀ v : Int, 0 ≤ v → v ≤ V → 0 ≤ o v ∧ Lev (nodesN d) v (o v).toNat)))
def o0 (ls : List NodeD) (k : Nat) (v : Int) : Int := if ofK ls k v = 0 then 0 else -1
theorem o0_part (ls : List NodeD) (k : Nat) (v : Int) : (if v ∈ (ls.getD k node0).vars then -1 else o0 ls k v) = o0 ls (k + 1) v := by
  unfold o0
  rw [show ofK ls (k + 1) v = if v ∈ (ls.getD k node0).vars then k + 1 else ofK ls k v from rfl]
  by_cases h : v ∈ (ls.getD k node0).vars
  · rw [if_pos h, if_pos h, if_neg (by omega)]
  · rw [if_neg h, if_neg h]
theorem RInv.bound {l : List NodeD} {V r i left : Nat} {o : Int → Int} (ok : NodesOK l V) (h : RInv l V r i left o) {v : Int} (h0 : 0 ≤ v) (h1 : v ≤ V) : o v ≤ l.length := by
  rcases Int.lt_or_le (o v) 0 with h2 | h2
  · omega
  · have := (h.told v h0 h1 h2).bound ok
    omega
set_option maxHeartbeats 16000000 in
set_option maxRecDepth 100000 in
theorem r06_Levels {w : World} {d : NetD} {vi vl vo vb vc vm va : Value} (h : NetP w d vi vl vo vb vc vm va) (hl0 : lightN d = true) :
    Calls Try.prog 15 #[netV d vi vl vo vb vc vm va] w (LvQ w d) := by
  obtain ⟨ai, ci, ni, al, cl, nl, ao, co, no, ab, cb, nb, ac, cc, nc, am, cm, nm, aa, ca, na, rfl, rfl, rfl, rfl, rfl, rfl, rfl, -, -⟩ := h.open_ (lightN_iff hl0).1
  obtain ⟨wb, hwb⟩ : ∃ wb, wb = w.alloc (.cells #[.int .i64 d.vars, .slice ai ni ci, .slice al nl cl, .slice ao no co, .slice ab nb cb, .slice ac nc cc, .slice am nm cm, .slice aa na ca] 27) := ⟨_, rfl⟩
  obtain ⟨bx, hbx⟩ : ∃ bx, bx = w.heap.size := ⟨_, rfl⟩
  have HB1 : Hid (Below w.heap.size w wb) := Lib.hid (by rw [hwb]; exact below_new1 w _)
  have HBX : Hid (NBox wb bx d (.slice ai ni ci) (.slice al nl cl) (.slice ao no co) (.slice ab nb cb) (.slice ac nc cc) (.slice am nm cm) (.slice aa na ca)) := Lib.hid (by rw [hwb, hbx]; exact NBox.new w _ _ _ _ _ _ _ _)
  have HP := Lib.hid (h.below HB1.out)
  have hso := r05_Sound HP.out hl0
  unfold netV at hso ⊢
  rw [hwb] at hso
  have HSO := Lib.hid hso
  have HW1 := Lib.hid hwb
  have HBE := Lib.hid hbx
  have HL := Lib.hid hl0
  obtain ⟨f, hf⟩ : ∃ f, f = soundN d := ⟨_, rfl⟩
  rw [← hf] at HSO
  have HF0 := Lib.hid hf
  clear h hl0 hwb hbx hso hf
  by_cases hf0 : f = 0
  · have hb0 : (f != 0) = false := by rw [bne_eq_false_iff_eq]; exact hf0
    have HS0 : Hid (soundN d = 0) := Lib.hid (by rw [← HF0.out]; exact hf0)
    obtain ⟨V, hs⟩ := soundN_ok HS0.out
    have hV := hs.lim
    have HS := Lib.hid hs
    have HOK := Lib.hid hs.nodes
    have HLEN := Lib.hid (nodes_len hs)
    have hmk := fun W => run_makeN (P := Try.prog) 22 3 (.int .i64 0) 1 8 Try.underlying22 infoI .i64 .i64 (V + 1) (V + 1) (Nat.le_refl _) (by omega) (by omega) W
    rw [show ((V + 1 : Nat) : Int) = (V : Int) + 1 by omega] at hmk
    clear hs hf0
    rw [HS.out.vars] at HSO HW1
    rw [HS.out.vars]
    go_enter Try.func15, Try.ntmps15
    go_wp2_with fail
    refine HSO.out.mono ?_
    rintro e w2 ⟨rfl, hb⟩
    rw [← HW1.out] at hb
    have HB2 := Lib.hid hb
    obtain ⟨c0, c1, c2, c3, c4, c5, c6, c7⟩ := (HBX.out.later (hb.trans ((below_new1 w2 (.cells (madeCells #[.int .i64 0] (V + 1)) 3)).mono hb.size))).all
    have d0 := (HBX.out.later hb).c0
    rw [HS.out.vars] at c0 d0
    rw [HBE.out] at c0 c1 c2 c3 c4 c5 c6 c7 d0
    obtain ⟨bl, hbl⟩ : ∃ bl, bl = w2.heap.size := ⟨_, rfl⟩
    obtain ⟨w3, hw3⟩ : ∃ w3, w3 = w2.alloc (.cells (madeCells #[.int .i64 0] (V + 1)) 3) := ⟨_, rfl⟩
    have HV3 : Hid (VBlk w3 bl 3 (V + 1) (fun i => .int .i64 (o0 (nodesN d) 0 i))) := Lib.hid (by rw [hw3, hbl]; exact VBlk.made1 w2 3 (.int .i64 0) (V + 1) (fun i _ => rfl))
    have HB3 : Hid (Below wb.heap.size wb w3) := Lib.hid (by rw [hw3]; exact hb.alloc hb.size _)
    have hnd := r06_Nodes HP.out HB3.out HL.out
    unfold netV at hnd
    rw [hw3, HS.out.vars] at hnd
    have HND := Lib.hid hnd
    have HBL : Hid (wb.heap.size ≤ bl ∧ bl < w3.heap.size) := Lib.hid (by rw [hbl, hw3]; have := hb.size; simp; omega)
    have HE3 := Lib.hid hw3
    have HEL := Lib.hid hbl
    clear hb HSO hnd hw3 hbl
    go_wp2_with fail
    refine HND.out.mono ?_
    rintro e w4 ⟨v4, us, rfl, hn4⟩
    rw [← HE3.out] at hn4
    rw [← HEL.out]
    obtain ⟨ls, hls⟩ : ∃ ls, ls = nodesN d := ⟨_, rfl⟩
    rw [← hls] at hn4 HV3 HOK HLEN
    obtain ⟨n, hn⟩ : ∃ n, n = ls.length := ⟨_, rfl⟩
    obtain ⟨A, cap, hv4, z1, z2⟩ := hn4.form
    rw [← hn] at hv4 z1
    subst hv4
    have HLS := Lib.hid hls
    have HN := Lib.hid hn
    have HN4 := Lib.hid hn4
    have HV4 := Lib.hid (HV3.out.later hn4.low)
    have HSB : Hid (∀ k, k = bl → wb.heap.size ≤ k ∧ k < w3.heap.size) := Lib.hid fun k hk => by rw [hk]; exact HBL.out
    have hn9 : n ≤ 2016 := by rw [hn]; exact HLEN.out
    have HBW : Hid (∀ W, Below w3.heap.size w3 W → Below w.heap.size w W) := Lib.hid fun W hW => HB1.out.trans ((HB3.out.trans (hW.mono HB3.out.size)).mono HB1.out.size)
    have HVL : Hid (∀ W, VBlk W bl 3 (V + 1) (fun i => .int .i64 0) → True) := Lib.hid fun _ _ => trivial
    clear hls hn hn4 c0 c1 c2 c3 c4 c5 c6 c7 d0 hmk HND HVL
    have HNB := Lib.hid (HN4.out.rebase HB3.out)
    obtain ⟨C, hC⟩ : ∃ C, C = w3.heap.size := ⟨_, rfl⟩
    obtain ⟨B, hB⟩ : ∃ B, B = wb.heap.size := ⟨_, rfl⟩
    have HSC : Hid (∀ k, k = bl → B ≤ k ∧ k < C) := Lib.hid fun k hk => by rw [hB, hC]; exact HSB.out k hk
    rw [← hC, ← hB] at HNB
    have HBB := Lib.hid hB
    clear hC hB
    go_wp2
    go_loopw [6, 7] (fun i _ wr => ∃ k : Nat, k ≤ n ∧ i = .int .i64 k ∧ NList B C wb wr (.slice A n cap) ls us ∧ VBlk wr bl 3 (V + 1) (fun i => .int .i64 (o0 ls k i))) (fun i _ _ => n - (intOf i).toNat)
    case atStart => exact ⟨0, Nat.zero_le _, rfl, HNB.out, HV4.out⟩
    case round =>
      obtain ⟨k, hk, rfl, hNL, hVB⟩ := hrel
      have HNL := Lib.hid hNL
      have HVB := Lib.hid hVB
      by_cases hlt : (k : Int) < (n : Int)
      · have hkn : k < ls.length := by have := HN.out; omega
        obtain ⟨g, cap', he, -, -, -, -, -, -, q4, -, hin⟩ := hNL.node hkn
        injection he with e1 e2 e3
        subst e1
        obtain ⟨xv, hxv⟩ : ∃ xv, xv = (ls.getD k node0).vars := ⟨_, rfl⟩
        obtain ⟨u4, hu4⟩ : ∃ u, u = (us.getD k (undef, undef)).2 := ⟨_, rfl⟩
        rw [← hxv, ← hu4] at hin
        rw [← hu4] at q4
        obtain ⟨A4, c4, hu4e, -, y1, y2, -⟩ := id hin.1
        obtain ⟨nx, hnx⟩ : ∃ nx, nx = xv.length := ⟨_, rfl⟩
        rw [← hnx] at hu4e y1
        subst hu4e
        unfold maxLen at y2
        have HU4 := Lib.hid hu4
        have HXV := Lib.hid hxv
        have HNX := Lib.hid hnx
        have HKN := Lib.hid hkn
        have HVR : Hid (∀ v ∈ xv, 1 ≤ v ∧ v ≤ (V : Int)) := Lib.hid (by rw [hxv]; exact HOK.out.vrng k hkn)
        have HV0 : Hid (VBlk wr bl 3 (V + 1) (fun i => .int .i64 (if (i : Int) ∈ xv.take 0 then -1 else o0 ls k i))) := Lib.hid (by simpa using HVB.out)
        clear hNL hVB q4 hin hu4 hxv hnx hkn e2 e3
        go_wp2
        go_loopw [7] (fun i wr => ∃ t : Nat, t ≤ nx ∧ i = .int .i64 t ∧ NList B C wb wr (.slice (some ⟨g, 0, none⟩) n cap) ls us ∧ VBlk wr bl 3 (V + 1) (fun i => .int .i64 (if (i : Int) ∈ xv.take t then -1 else o0 ls k i))) (fun i _ => nx - (intOf i).toNat)
        case atStart => exact ⟨0, Nat.zero_le _, rfl, HNL.out, HV0.out⟩
        case round =>
          obtain ⟨t, ht, rfl, hNL, hVB⟩ := hrel
          have HNLt := Lib.hid hNL
          have HVBt := Lib.hid hVB
          obtain ⟨g', cap', he, -, -, -, -, -, -, q4, -, hin⟩ := hNL.node HKN.out
          injection he with e1 e2 e3
          injection e1 with e1
          injection e1 with e1
          subst e1
          rw [← HU4.out] at q4 hin
          rw [← HXV.out] at hin
          clear hNL hVB e2 e3
          by_cases hltt : (t : Int) < (nx : Int)
          · have htn : t < xv.length := by have := HNX.out; omega
            obtain ⟨-, hii⟩ := ints_hii hin.1
            obtain ⟨b, off, rfl, hcs⟩ := hii.resolve_left (fun e => by rw [e] at htn; simp at htn)
            have q := hcs t htn
            have hv := HVR.out (xv.getD t 0) (mem_getD 0 htn)
            have hts := take_snocI htn
            obtain ⟨v, hv9⟩ : ∃ v, v = xv.getD t 0 := ⟨_, rfl⟩
            rw [← hv9] at q hv hts
            obtain ⟨vn, rfl⟩ : ∃ vn : Nat, v = vn := ⟨v.toNat, by omega⟩
            have hvV : vn < V + 1 := by omega
            have co' := HVBt.out.cell hvV
            have fo' := HVBt.out.frozen vn
            generalize (Value.int .i64 (if ((vn : Nat) : Int) ∈ xv.take t then -1 else o0 ls k vn)) = old at co'
            have HTS := Lib.hid hts
            have hv1 : 0 ≤ (vn : Int) := by omega
            have hv2 : (vn : Int) < (V : Int) + 1 := by omega
            clear hcs hii hts hv9 htn hv hin
            go_wp2
            go_roundw
            case rel =>
              refine ⟨t + 1, by omega, by go_num, ?_, ?_⟩
              · exact HNLt.out.chg ((Chg.refl (fun k => k = bl) wr).setCell (p := ⟨bl, vn, none⟩) (.inl rfl) _) HSC.out (HNLt.out.low.setCell (by have := HBL.out; simp; omega) _)
              · refine (HVBt.out.set_ vn (.int .i64 (-1))).ext (fun i _ => ?_)
                rw [HTS.out]
                by_cases e : i = vn
                · subst e; simp
                · have e2 : (i : Int) ≠ (vn : Int) := by omega
                  simp [e, e2]
            case measure => simp [intOf]; omega
          · obtain rfl : t = nx := by omega
            have HFIN : Hid (VBlk wr bl 3 (V + 1) (fun i => .int .i64 (o0 ls (k + 1) i))) := Lib.hid (HVBt.out.ext (fun i _ => by
              rw [List.take_of_length_le (by have := HNX.out; omega), ← o0_part, HXV.out]))
            clear hin
            go_wp2
            go_roundw
            case rel => exact ⟨k + 1, by omega, by go_num, HNLt.out, HFIN.out⟩
            case measure => simp [intOf]; omega
      · obtain rfl : k = n := by omega
        have hR0 : RInv ls V 0 0 0 (fun v => o0 ls k v) := RInv.start HOK.out (fun v => by unfold o0 ofN; rw [← HN.out])
        have HR0 := Lib.hid hR0
        obtain ⟨wq, rfl⟩ : ∃ wq : World, wq = wr := ⟨_, rfl⟩
        clear hR0 hNL hVB
        go_wp2
        go_loopw [8, 9, 10, 11, 12] (fun lf i _ _ _ wr => ∃ r left : Nat, ∃ o : Int → Int, r ≤ k + 1 ∧ i = .int .i64 r ∧ lf = .int .i64 left ∧ left ≤ k ∧ (r ≤ k → RInv ls V r 0 0 o) ∧ (∀ q, r = q + 1 → RInv ls V q ls.length left o) ∧ NList B C wb wr (.slice A k cap) ls us ∧ VBlk wr bl 3 (V + 1) (fun i => .int .i64 (o i))) (fun _ i _ _ _ _ => k + 1 - (intOf i).toNat)
        case atStart => exact ⟨0, 0, _, Nat.zero_le _, rfl, rfl, Nat.zero_le _, (fun _ => HR0.out), (fun q hq => by omega), HNL.out, HVB.out⟩
        case round =>
          obtain ⟨r, left, o, hr, rfl, rfl, hlf, hR1, hR2, hNL, hVB⟩ := hrel
          have HNLr := Lib.hid hNL
          have HVBr := Lib.hid hVB
          have HR2 := Lib.hid hR2
          clear hNL hVB hR2
          by_cases hltr : (r : Int) ≤ (k : Int)
          · have HR1 := Lib.hid (hR1 (by omega))
            obtain ⟨wp, rfl⟩ : ∃ wp : World, wp = wr := ⟨_, rfl⟩
            clear hR1
            go_wp2
            go_loopw [8, 10, 11, 12] (fun lf i _ _ wr => ∃ j left : Nat, ∃ o : Int → Int, j ≤ k ∧ i = .int .i64 j ∧ lf = .int .i64 left ∧ left ≤ j ∧ RInv ls V r j left o ∧ NList B C wb wr (.slice A k cap) ls us ∧ VBlk wr bl 3 (V + 1) (fun i => .int .i64 (o i))) (fun _ i _ _ _ => k - (intOf i).toNat)
            case atStart => exact ⟨0, 0, o, Nat.zero_le _, rfl, rfl, Nat.zero_le _, HR1.out, HNLr.out, HVBr.out⟩
            case round =>
              obtain ⟨j, left, o, hj, rfl, rfl, hlf, hRj, hNL, hVB⟩ := hrel
              have HNLj := Lib.hid hNL
              have HVBj := Lib.hid hVB
              have HRJ := Lib.hid hRj
              by_cases hltj : (j : Int) < (k : Int)
              · have hjn : j < ls.length := by have := HN.out; omega
                obtain ⟨g, cap', he, -, -, q0, q1, q2, q3, q4, hin3, hin4⟩ := hNL.node hjn
                injection he with e1 e2 e3
                subst e1
                obtain ⟨x, hx⟩ : ∃ x, x = ls.getD j node0 := ⟨_, rfl⟩
                obtain ⟨u4, hu4⟩ : ∃ u, u = (us.getD j (undef, undef)).2 := ⟨_, rfl⟩
                obtain ⟨u3, hu3⟩ : ∃ u, u = (us.getD j (undef, undef)).1 := ⟨_, rfl⟩
                have hstep := hRj.step HOK.out hjn
                have hfr : ∀ y ∈ x.frm, 0 ≤ y ∧ y ≤ 2 * (V : Int) + 1 := by rw [hx]; exact HOK.out.frng j hjn
                have HVR : Hid (∀ v ∈ x.vars, 1 ≤ v ∧ v ≤ (V : Int)) := Lib.hid (by rw [hx]; exact HOK.out.vrng j hjn)
                rw [← hx] at q0 q1 q2 hin3 hin4 hstep
                rw [← hu3] at q3 hin3
                rw [← hu4] at q4 hin4
                have hlv := r06_level hin3.1 hin4.1 hVB hfr hV (fun v h0 h1 => by have := hRj.bound HOK.out h0 h1; have := HLEN.out; omega)
                obtain ⟨A3, c3, hu3e, -⟩ := id hin3.1
                obtain ⟨A4, c4, hu4e, -, y1, y2, -⟩ := id hin4.1
                obtain ⟨xv, hxv⟩ : ∃ xv, xv = x.vars := ⟨_, rfl⟩
                obtain ⟨nx, hnx⟩ : ∃ nx, nx = xv.length := ⟨_, rfl⟩
                rw [← hxv] at hu4e y1 hstep HVR
                rw [← hnx] at hu4e y1
                generalize x.frm.length = n3 at hu3e
                subst hu3e hu4e
                obtain ⟨a9, ha9⟩ : ∃ a, a = told1 x.frm o := ⟨_, rfl⟩
                rw [← ha9] at hlv hstep
                have ha1 : -1 ≤ a9 := by
                  rw [ha9]; unfold told1; split <;> omega
                obtain ⟨rd, hrd⟩ : ∃ r, r = x.read := ⟨_, rfl⟩
                obtain ⟨xm, hxm⟩ : ∃ r, r = x.mem := ⟨_, rfl⟩
                obtain ⟨xp, hxp⟩ : ∃ r, r = x.pos := ⟨_, rfl⟩
                rw [← hrd] at q0 hlv
                rw [← hxm] at q1 hlv
                rw [← hxp] at q2 hlv
                have HLVL := Lib.hid hlv
                have HST := Lib.hid hstep
                have HU4 := Lib.hid hu4
                have HXV : Hid (xv = (ls.getD j node0).vars) := Lib.hid (by rw [hxv, hx])
                have HNX := Lib.hid hnx
                have HJN := Lib.hid hjn
                unfold maxLen at y2
                clear hNL hVB hRj hin3 hin4 hstep hfr hlv hx hu3 hu4 hxv hnx ha9 hrd hxm hxp hjn e2 e3
                have HAFT : Hid (∀ left' : Nat, left' = (if a9 < 0 then left + 1 else left) → RInv ls V r (j + 1) left' (put1 xv a9 o)) := Lib.hid fun l hl => by rw [hl]; exact HST.out
                by_cases hneg : a9 < 0
                all_goals
                  go_wp2_with fail
                  refine HLVL.out.mono ?_
                  rintro e w5 ⟨rfl, hb5⟩
                  have HNL5 := Lib.hid (HNLj.out.below hb5)
                  have HVB5 : Hid (VBlk w5 bl 3 (V + 1) (fun i => .int .i64 (put1 (xv.take 0) a9 o i))) := Lib.hid (by have h1 := HVBj.out.later hb5; simpa [put1] using h1)
                  have q45 := cell_below q4 hb5
                  clear hb5 q0 q1 q2 q3 q4
                  go_wp2
                  clear q45
                  go_loopw [12] (fun i wr => ∃ t : Nat, t ≤ nx ∧ i = .int .i64 t ∧ NList B C wb wr (.slice (some ⟨g, 0, none⟩) k cap) ls us ∧ VBlk wr bl 3 (V + 1) (fun i => .int .i64 (put1 (xv.take t) a9 o i))) (fun i _ => nx - (intOf i).toNat)
                  case atStart => exact ⟨0, Nat.zero_le _, rfl, HNL5.out, HVB5.out⟩
                  case round =>
                    obtain ⟨t, ht, rfl, hNL, hVB⟩ := hrel
                    have HNLt := Lib.hid hNL
                    have HVBt := Lib.hid hVB
                    obtain ⟨g', cap', he, -, -, -, -, -, -, q4, -, hin⟩ := hNL.node HJN.out
                    injection he with e1 e2 e3
                    injection e1 with e1
                    injection e1 with e1
                    subst e1
                    rw [← HU4.out] at q4 hin
                    rw [← HXV.out] at hin
                    clear hNL hVB e2 e3
                    by_cases hltt : (t : Int) < (nx : Int)
                    · have htn : t < xv.length := by have := HNX.out; omega
                      obtain ⟨-, hii⟩ := ints_hii hin.1
                      obtain ⟨b, off, rfl, hcs⟩ := hii.resolve_left (fun e => by rw [e] at htn; simp at htn)
                      have q := hcs t htn
                      have hv := HVR.out (xv.getD t 0) (mem_getD 0 htn)
                      have hts := take_snocI htn
                      obtain ⟨v, hv9⟩ : ∃ v, v = xv.getD t 0 := ⟨_, rfl⟩
                      rw [← hv9] at q hv hts
                      obtain ⟨vn, rfl⟩ : ∃ vn : Nat, v = vn := ⟨v.toNat, by omega⟩
                      have hvV : vn < V + 1 := by omega
                      have co' := HVBt.out.cell hvV
                      have fo' := HVBt.out.frozen vn
                      generalize (Value.int .i64 (put1 (xv.take t) a9 o vn)) = old at co'
                      have HTS := Lib.hid hts
                      have hv1 : 0 ≤ (vn : Int) := by omega
                      have hv2 : (vn : Int) < (V : Int) + 1 := by omega
                      clear hcs hii hts hv9 htn hv hin
                      go_wp2
                      go_roundw
                      case rel =>
                        refine ⟨t + 1, by omega, by go_num, ?_, ?_⟩
                        · exact HNLt.out.chg ((Chg.refl (fun k => k = bl) wr).setCell (p := ⟨bl, vn, none⟩) (.inl rfl) _) HSC.out (HNLt.out.low.setCell (by have := HBL.out; simp; omega) _)
                        · refine (HVBt.out.set_ vn (.int .i64 a9)).ext (fun i _ => ?_)
                          rw [HTS.out]
                          unfold put1
                          by_cases e : i = vn
                          · subst e; simp
                          · have e2 : (i : Int) ≠ (vn : Int) := by omega
                            simp [e, e2]
                      case measure => simp [intOf]; omega
                    · obtain rfl : t = nx := by omega
                      have HFIN : Hid (VBlk wr bl 3 (V + 1) (fun i => .int .i64 (put1 xv a9 o i))) := Lib.hid (HVBt.out.ext (fun i _ => by rw [List.take_of_length_le (by have := HNX.out; omega)]))
                      clear hin
                      go_wp2
                      go_roundw
                      case rel =>
                        first
                          | exact ⟨j + 1, left + 1, _, by omega, by go_num, by go_num, by omega, HAFT.out _ (by rw [if_pos (by omega)]), HNLt.out, HFIN.out⟩
                          | exact ⟨j + 1, left, _, by omega, by go_num, rfl, by omega, HAFT.out _ (by rw [if_neg (by omega)]), HNLt.out, HFIN.out⟩
                      case measure => simp [intOf]; omega
              · obtain rfl : j = k := by omega
                have HNX : Hid (RInv ls V r ls.length left o) := Lib.hid (by rw [← HN.out]; exact HRJ.out)
                clear hRj hNL hVB
                go_wp2
                go_roundw
                case rel => exact ⟨r + 1, left, o, by omega, by go_num, rfl, by omega, (fun _ => HNX.out.next HOK.out), (fun q hq => by rw [show q = r by omega]; exact HNX.out), HNLj.out, HVBj.out⟩
                case measure => simp [intOf]; omega
          · obtain rfl : r = k + 1 := by omega
            have HEND := Lib.hid (HR2.out k rfl)
            have HBE2 : Hid (Below w.heap.size w wr) := Lib.hid (HB1.out.trans (HNLr.out.low.mono HB1.out.size))
            clear hR1
            by_cases hl0 : 0 < (left : Int)
            · have HF : Hid (LvQ w d (.returned (.tuple #[.slice none 0 0, .bool false])) wr) := Lib.hid ⟨HBE2.out, .inr ⟨HS0.out, V, HS.out, .inl ⟨by rw [← HLS.out]; exact HEND.out.no HOK.out (by have := HN.out; omega) (by omega), rfl⟩⟩⟩
              go_wp2
              go_ret2
              exact HF.out
            · obtain rfl : left = 0 := by omega
              have HF : Hid (LvQ w d (.returned (.tuple #[.slice (some ⟨bl, 0, none⟩) (V + 1) (V + 1), .bool true])) wr) := Lib.hid ⟨HBE2.out, .inr ⟨HS0.out, V, HS.out, .inr ⟨bl, o, rfl, HVBr.out, Nat.le_trans HB1.out.size HBL.out.1, by rw [← HLS.out]; exact HEND.out.yes HOK.out⟩⟩⟩
              clear hl0
              go_wp2
              go_ret2
              exact HF.out
  · have hb0 : (f != 0) = true := by rw [bne_iff_ne]; exact hf0
    have HNE : Hid (soundN d ≠ 0) := Lib.hid (by rw [← HF0.out]; exact hf0)
    clear hf0
    go_enter Try.func15, Try.ntmps15
    go_wp2_with fail
    refine HSO.out.mono ?_
    rintro e w2 ⟨rfl, hb⟩
    rw [← HW1.out] at hb
    have HF : Hid (LvQ w d (.returned (.tuple #[.slice none 0 0, .bool false])) w2) := Lib.hid ⟨HB1.out.trans (hb.mono HB1.out.size), .inl ⟨HNE.out, rfl⟩⟩
    clear hb
    go_wp2
    go_ret2
    exact HF.out
end Go.Proofs.Ytgnimegdgphlmaa
