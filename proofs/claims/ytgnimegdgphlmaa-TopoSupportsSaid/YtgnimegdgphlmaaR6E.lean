/-
  The document's Support, walked.
-/
import Derived.Test.YtgnimegdgphlmaaSupB
import Derived.Test.YtgnimegdgphlmaaR6D
import Derived.Test.YtgnimegdgphlmaaTopC
namespace Go.Proofs.Ytgnimegdgphlmaa
open Go.ChangeShapes Go.WideShapes Go.ChangeAt Go.RowKit
set_option linter.unusedVariables false
set_option linter.unusedSimpArgs false
attribute [local go_sem ↓] Go.wp_at_zero Go.wp_at_succ
theorem good_iff {d : NetD} : checkN d = 0 ↔ GoodN d := by
  constructor
  · intro h
    by_cases h0 : soundN d = 0
    · obtain ⟨V, hs⟩ := soundN_ok h0
      refine ⟨h0, V, hs, ?_⟩
      by_cases hA : Acyc (nodesN d) V
      · exact hA
      · rw [checkN_no h0 hs hA] at h; cases h
    · rw [checkN_bad h0] at h; exact absurd h h0
  · rintro ⟨h0, V, hs, hA⟩
    exact checkN_yes h0 hs hA
/-- The literals' own variables. -/
def rts (V : Nat) (xs : List Int) (u : Int) : Bool := decide (1 ≤ u ∧ u ≤ (V : Int) ∧ ∃ x ∈ xs, x / 2 = u)
theorem rts_nil (V : Nat) (u : Int) : rts V [] u = false := by simp [rts]
theorem rts_snoc (V : Nat) (xs : List Int) (x u : Int) : rts V (xs ++ [x]) u = if 1 ≤ x / 2 ∧ x / 2 ≤ (V : Int) then set1 (rts V xs) (x / 2) u else rts V xs u := by
  unfold rts set1
  rw [Bool.eq_iff_iff]
  by_cases h : 1 ≤ x / 2 ∧ x / 2 ≤ (V : Int)
  · rw [if_pos h]
    by_cases he : u = x / 2
    · subst he; simp [h.1, h.2]
    · have hn : ¬ x / 2 = u := fun e => he e.symm
      simp [he, hn, List.mem_append, or_and_right, exists_or]
  · rw [if_neg h]
    simp only [decide_eq_true_eq]
    constructor
    · rintro ⟨h1, h2, y, hy, e⟩
      rcases List.mem_append.1 hy with h3 | h3
      · exact ⟨h1, h2, y, h3, e⟩
      · simp at h3; subst h3; exact absurd ⟨by omega, by omega⟩ h
    · rintro ⟨h1, h2, y, hy, e⟩
      exact ⟨h1, h2, y, by simp [hy], e⟩
theorem BackI.start {l : List NodeD} {V : Nat} {xs : List Int} {o : List NodeD} : BackI l V xs o o.length (rts V xs) :=
  ⟨fun u hu => by
    have hu := of_decide_eq_true hu
    obtain ⟨h1, h2, x, hx, e⟩ := hu
    exact .root u ⟨⟨x, hx, e.symm⟩, h1, h2⟩, fun x hx h1 h2 => decide_eq_true ⟨h1, h2, x, hx, rfl⟩, fun j h1 h2 => absurd h1 (by omega)⟩
theorem any_snoc (xs : List Int) (x : Int) (m : Int → Bool) : (xs ++ [x]).any m = (xs.any m || m x) := by simp
set_option maxHeartbeats 16000000 in
set_option maxRecDepth 100000 in
theorem r06_Support {w : World} {d : NetD} {vi vl vo vb vc vm va : Value} (h : NetP w d vi vl vo vb vc vm va) (hl0 : lightN d = true) {u : Value} {xs : List Int} (hI : Ints w u xs) (hxs : ∀ x ∈ xs, 0 ≤ x ∧ x ≤ 2305843009213693952) (hxl : xs.length ≤ 1000) :
    Calls Try.prog 13 #[netV d vi vl vo vb vc vm va, u] w (SupQ w d xs) := by
  obtain ⟨ai, ci, ni, al, cl, nl, ao, co, no, ab, cb, nb, ac, cc, nc, am, cm, nm, aa, ca, na, rfl, rfl, rfl, rfl, rfl, rfl, rfl, -, -⟩ := h.open_ (lightN_iff hl0).1
  obtain ⟨wb, hwb⟩ : ∃ wb, wb = w.alloc (.cells #[.int .i64 d.vars, .slice ai ni ci, .slice al nl cl, .slice ao no co, .slice ab nb cb, .slice ac nc cc, .slice am nm cm, .slice aa na ca] 27) := ⟨_, rfl⟩
  obtain ⟨bx, hbx⟩ : ∃ bx, bx = w.heap.size := ⟨_, rfl⟩
  have HB1 : Hid (Below w.heap.size w wb) := Lib.hid (by rw [hwb]; exact below_new1 w _)
  have HBX : Hid (NBox wb bx d (.slice ai ni ci) (.slice al nl cl) (.slice ao no co) (.slice ab nb cb) (.slice ac nc cc) (.slice am nm cm) (.slice aa na ca)) := Lib.hid (by rw [hwb, hbx]; exact NBox.new w _ _ _ _ _ _ _ _)
  have HP := Lib.hid (h.below HB1.out)
  have HP0 := Lib.hid h
  have ht := r06_Check HP.out hl0
  unfold netV at ht ⊢
  rw [hwb] at ht
  have HT := Lib.hid ht
  have HW1 := Lib.hid hwb
  have HBE := Lib.hid hbx
  have HL := Lib.hid hl0
  obtain ⟨au, cu, rfl, -, x1, x2, -⟩ := id hI
  obtain ⟨nx, hnx⟩ : ∃ n, n = xs.length := ⟨_, rfl⟩
  rw [← hnx] at hI x1 hxl ⊢
  have HI := Lib.hid hI
  have HXS := Lib.hid hxs
  have HNX := Lib.hid hnx
  obtain ⟨f, hf⟩ : ∃ f, f = checkN d := ⟨_, rfl⟩
  rw [← hf] at HT
  have HF0 := Lib.hid hf
  unfold maxLen at x2
  clear h hl0 hwb hbx ht hI hxs hnx hf
  by_cases hf0 : f = 0
  · have hb0 : (f != 0) = false := by rw [bne_eq_false_iff_eq]; exact hf0
    have HG : Hid (GoodN d) := Lib.hid (good_iff.1 (by rw [← HF0.out]; exact hf0))
    obtain ⟨hs0, V, hs, hA⟩ := id HG.out
    have hV := hs.lim
    have HS := Lib.hid hs
    have HA := Lib.hid hA
    have HOK := Lib.hid hs.nodes
    have HLEN := Lib.hid (nodes_len hs)
    have hmk := fun W => run_makeN (P := Try.prog) 48 4 (.bool false) 1 1 Try.underlying48 infoB .i64 .i64 (V + 1) (V + 1) (Nat.le_refl _) (by omega) (by omega) W
    rw [show ((V + 1 : Nat) : Int) = (V : Int) + 1 by omega] at hmk
    clear hs hs0 hA hf0
    rw [HS.out.vars] at HT HW1
    rw [HS.out.vars]
    go_enter Try.func13, Try.ntmps13
    go_wp2_with fail
    refine HT.out.mono ?_
    rintro e w2 ⟨rfl, hb⟩
    rw [← HW1.out] at hb
    have HB2 : Hid (Below w.heap.size w w2) := Lib.hid (HB1.out.trans (hb.mono HB1.out.size))
    have HBX2 := Lib.hid (HBX.out.later hb)
    have c0 := HBX2.out.c0
    rw [HS.out.vars, HBE.out] at c0
    clear hb
    go_wp2
    obtain ⟨bg, hbg⟩ : ∃ b, b = w2.heap.size := ⟨_, rfl⟩
    obtain ⟨w3, hw3⟩ : ∃ w3 : World, w3 = w2.alloc (.cells (madeCells #[.bool false] (V + 1)) 4) := ⟨_, rfl⟩
    have HV3 : Hid (VBlk w3 bg 4 (V + 1) (fun i => .bool (rts V (xs.take 0) i))) := Lib.hid (by rw [hw3, hbg]; exact VBlk.made1 w2 4 (.bool false) (V + 1) (fun i _ => by simp [rts_nil]))
    have HB23 : Hid (Below w2.heap.size w2 w3) := Lib.hid (by rw [hw3]; exact below_new1 w2 _)
    have HBG : Hid (w.heap.size ≤ bg ∧ bx < bg ∧ bg < w3.heap.size) := Lib.hid (by have := HB2.out.size; have := HBX2.out.lt; rw [hbg, hw3]; simp; omega)
    rw [← hw3, ← hbg]
    have HB03 : Hid (Below w.heap.size w w3) := Lib.hid (HB2.out.trans (HB23.out.mono HB2.out.size))
    have HBX3 := Lib.hid (HBX2.out.later HB23.out)
    clear hw3 hbg c0 hmk
    go_loopw [6, 7] (fun c _ wr => ∃ j : Nat, j ≤ nx ∧ c = .int .i64 j ∧ VBlk wr bg 4 (V + 1) (fun i => .bool (rts V (xs.take j) i)) ∧ Chg (fun k => k = bg) w3 wr) (fun c _ _ => nx - (intOf c).toNat)
    case atStart => exact ⟨0, Nat.zero_le _, rfl, HV3.out, Chg.refl _ _⟩
    case round =>
      obtain ⟨j, hj, rfl, hvb, hC⟩ := hrel
      have HVB := Lib.hid hvb
      have HC := Lib.hid hC
      have HBW : Hid (Below w.heap.size w wr) := Lib.hid (HB03.out.trans (hC.below HB03.out.size (fun k hk => by rw [hk]; exact HBG.out.1)))
      have hbxr : NBox wr bx d (.slice ai ni ci) (.slice al nl cl) (.slice ao no co) (.slice ab nb cb) (.slice ac nc cc) (.slice am nm cm) (.slice aa na ca) := Blk.chg HBX3.out hC (by have := HBG.out; omega)
      have HBXr := Lib.hid hbxr
      clear hvb hC
      by_cases hlt : (j : Int) < (nx : Int)
      · have c0 := hbxr.c0
        rw [HS.out.vars, HBE.out] at c0
        clear hbxr
        have hjn : j < xs.length := by have := HNX.out; omega
        have hI2 := HI.out.below HBW.out
        obtain ⟨-, hii⟩ := ints_hii hI2
        obtain ⟨b, off, rfl, hcs⟩ := hii.resolve_left (fun e => by rw [e] at hjn; simp at hjn)
        have q := hcs j hjn
        have hyr := HXS.out (xs.getD j 0) (mem_getD 0 hjn)
        have hts := take_snocI hjn
        obtain ⟨y, hy⟩ : ∃ y, y = xs.getD j 0 := ⟨_, rfl⟩
        rw [← hy] at q hyr hts
        have hvar := r01Var_q y wr hyr.1 hyr.2
        have hrs := fun u => rts_snoc V (xs.take j) y u
        rw [← hts] at hrs
        obtain ⟨z, hz⟩ : ∃ z : Nat, y / 2 = (z : Int) := ⟨(y / 2).toNat, by omega⟩
        rw [hz] at hvar hrs
        have HVAR := Lib.hid hvar
        clear hcs hii hts hy hjn hvar hI2 hz
        by_cases hz1 : (z : Int) < 1
        · have HRS : Hid (∀ u, rts V (xs.take (j + 1)) u = rts V (xs.take j) u) := Lib.hid fun u => by rw [hrs u, if_neg (by omega)]
          have hb1 : decide (1 ≤ (z : Int)) = false := decide_eq_false (by omega)
          clear hrs
          go_wp2_with (go_at_call 20; refine HVAR.out.mono ?_; rintro e w' ⟨rfl, rfl⟩)
          go_roundw
          case rel => exact ⟨j + 1, by omega, by go_num, HVB.out.ext (fun i _ => by rw [HRS.out]), HC.out⟩
          case measure => simp [intOf]; omega
        · by_cases hz2 : (V : Int) < (z : Int)
          · have HRS : Hid (∀ u, rts V (xs.take (j + 1)) u = rts V (xs.take j) u) := Lib.hid fun u => by rw [hrs u, if_neg (by omega)]
            clear hrs
            go_wp2_with (go_at_call 20; refine HVAR.out.mono ?_; rintro e w' ⟨rfl, rfl⟩)
            go_roundw
            case rel => exact ⟨j + 1, by omega, by go_num, HVB.out.ext (fun i _ => by rw [HRS.out]), HC.out⟩
            case measure => simp [intOf]; omega
          · have HRS : Hid (∀ u, rts V (xs.take (j + 1)) u = set1 (rts V (xs.take j)) z u) := Lib.hid fun u => by rw [hrs u, if_pos (by omega)]
            have hzV : z < V + 1 := by omega
            have hzV2 : (z : Int) < (V : Int) + 1 := by omega
            have cz := HVB.out.cell hzV
            have fz := HVB.out.frozen z
            generalize (Value.bool (rts V (xs.take j) ((z : Nat) : Int))) = old at cz
            clear hrs
            go_wp2_with (go_at_call 20; refine HVAR.out.mono ?_; rintro e w' ⟨rfl, rfl⟩)
            go_roundw
            case rel =>
              refine ⟨j + 1, by omega, by go_num, (HVB.out.set_ z _).ext (fun i _ => ?_), HC.out.setCell (p := ⟨bg, z, none⟩) (.inl rfl) _⟩
              rw [HRS.out]
              unfold set1
              by_cases e : i = z
              · simp [e]
              · have e2 : (i : Int) ≠ (z : Int) := by omega
                simp [e, e2]
            case measure => simp [intOf]; omega
      · obtain rfl : j = nx := by omega
        have hfull : xs.take j = xs := List.take_of_length_le (by have := HNX.out; omega)
        rw [hfull] at HVB
        obtain ⟨c0, c1, c2, c3, c4, c5, c6, c7⟩ := hbxr.all
        rw [HS.out.vars] at c0
        rw [HBE.out] at c0 c1 c2 c3 c4 c5 c6 c7
        have hor := r06_Order HP0.out HBW.out HL.out
        unfold netV at hor
        rw [HS.out.vars] at hor
        have HOR := Lib.hid hor
        have HBGr : Hid (w.heap.size ≤ bg ∧ bg < wr.heap.size) := Lib.hid ⟨HBG.out.1, HVB.out.lt⟩
        obtain ⟨wq, rfl⟩ : ∃ wq : World, wq = wr := ⟨_, rfl⟩
        clear hfull hbxr hor
        go_wp2_with fail
        refine HOR.out.mono ?_
        rintro e w5 ⟨hb5, ⟨hn, rfl⟩ | ⟨-, V', hs', o, v5, us, rfl, hlo, hnl⟩⟩
        · exact absurd HG.out hn
        · obtain rfl := HS.out.vuniq hs'
          have HOO := Lib.hid (ordN_ok HOK.out hlo)
          obtain ⟨ol, hol⟩ : ∃ ol, ol = ordN (nodesN d) o (nodesN d).length := ⟨_, rfl⟩
          rw [← hol] at HOO hnl
          obtain ⟨n5, hn5⟩ : ∃ n5, n5 = ol.length := ⟨_, rfl⟩
          obtain ⟨A5, cap5, hv5, z1, z2⟩ := hnl.form
          rw [← hn5] at hv5 z1
          subst hv5
          obtain ⟨B, hB⟩ : ∃ B, B = w.heap.size := ⟨_, rfl⟩
          obtain ⟨C, hC⟩ : ∃ C, C = wq.heap.size := ⟨_, rfl⟩
          rw [← hB, ← hC] at hnl
          have HNL := Lib.hid (hnl.rebase HBW.out)
          have HN5 := Lib.hid hn5
          have HV5 := Lib.hid (HVB.out.later hb5)
          have HSB : Hid (∀ k, k = bg → B ≤ k ∧ k < C) := Lib.hid fun k hk => by rw [hk, hB, hC]; exact HBGr.out
          have HBX5 := Lib.hid (HBXr.out.later hb5)
          have HB5 := Lib.hid (HBW.out.trans (hb5.mono HBW.out.size))
          have HBQ : Hid (B ≤ wq.heap.size) := Lib.hid (by rw [hB]; exact HBW.out.size)
          have HBS : Hid (BackI (nodesN d) V xs ol n5 (rts V xs)) := Lib.hid (by rw [hn5]; exact BackI.start)
          have HFR : Hid (∀ i, i < ol.length → (∀ v ∈ (ol.getD i node0).vars, 1 ≤ v ∧ v ≤ (V : Int)) ∧ ∀ y ∈ (ol.getD i node0).frm, 0 ≤ y ∧ y ≤ 2 * (V : Int) + 1) := Lib.hid fun i hi => by
            obtain ⟨q, hq, e⟩ := HOO.out.src i hi
            rw [e]
            exact ⟨HOK.out.vrng q hq, HOK.out.frng q hq⟩
          clear hb5 hs' hlo hol hn5 hB hC hnl c0 c1 c2 c3 c4 c5 c6 c7 HOR
          go_wp2
          go_loopw [10, 11, 12, 13, 14, 15] (fun c _ _ _ _ _ wr => ∃ i : Nat, ∃ m : Int → Bool, i ≤ n5 ∧ c = .int .i64 ((i : Int) - 1) ∧ BackI (nodesN d) V xs ol i m ∧ VBlk wr bg 4 (V + 1) (fun i => .bool (m i)) ∧ NList B C w wr (.slice A5 n5 cap5) ol us ∧ Chg (fun k => k = bg) w5 wr) (fun c _ _ _ _ _ _ => (intOf c + 1).toNat)
          case atStart => exact ⟨n5, _, Nat.le_refl _, rfl, HBS.out, HV5.out, HNL.out, Chg.refl _ _⟩
          case round =>
            obtain ⟨i, m, hi, rfl, hbk, hvb, hnl, hC5⟩ := hrel
            have HC5 := Lib.hid hC5
            clear hC5
            have HBK := Lib.hid hbk
            have HVm := Lib.hid hvb
            have HNm := Lib.hid hnl
            by_cases hi0 : i = 0
            · subst hi0
              have hM := hbk.iff HOO.out
              have hm0 : m 0 = false := by
                cases hq : m 0 with
                | false => rfl
                | true =>
                  have h1 := (hM 0).1 hq
                  have h2 := Rch.rng HOK.out h1 (fun u hu => hu.2)
                  omega
              have HM := Lib.hid hM
              have HBZ : Hid (NBox wr bx d (.slice ai ni ci) (.slice al nl cl) (.slice ao no co) (.slice ab nb cb) (.slice ac nc cc) (.slice am nm cm) (.slice aa na ca)) := Lib.hid (Blk.chg HBX5.out HC5.out (by have := HBG.out; omega))
              have HBW2 : Hid (Below w.heap.size w wr) := Lib.hid hnl.low
              have HS1 : Hid (OwnI wr wr (.slice none 0 0) (lstN m (0 + 1))) := Lib.hid (by
                rw [lstN_succ, if_neg (by simp [hm0])]
                exact OwnI.start wr)
              obtain ⟨wz, rfl⟩ : ∃ wz : World, wz = wr := ⟨_, rfl⟩
              clear hM hm0 hbk hvb hnl
              rw [show ((0 : Nat) : Int) - 1 = -1 from rfl]
              go_wp2
              go_loopw [16, 17] (fun v c wr => ∃ k : Nat, k ≤ V ∧ c = .int .i64 ((k : Int) + 1) ∧ OwnI wz wr v (lstN m (k + 1))) (fun _ c _ => V + 1 - (intOf c).toNat)
              case atStart => exact ⟨0, Nat.zero_le _, rfl, HS1.out⟩
              case round =>
                obtain ⟨k, hk, rfl, hO⟩ := hrel
                have HO := Lib.hid hO
                have c0 := (HBZ.out.later hO.2.1).c0
                rw [HS.out.vars, HBE.out] at c0
                by_cases hltk : (k : Int) + 1 ≤ (V : Int)
                · have hkV : k + 1 < V + 1 := by omega
                  have hkV2 : (k : Int) + 1 < (V : Int) + 1 := by omega
                  have cb := (HVm.out.later hO.2.1).cell hkV
                  have hsn := lstN_succ m (k + 1)
                  rw [show (((k + 1 : Nat)) : Int) = (k : Int) + 1 by omega] at cb hsn
                  have HLN := Lib.hid (lstN_len m (k + 1))
                  clear hO
                  obtain ⟨q, hq⟩ : ∃ q, q = m ((k : Int) + 1) := ⟨_, rfl⟩
                  rw [← hq] at cb hsn
                  have HSN := Lib.hid hsn
                  clear hsn hq
                  cases q with
                  | true =>
                    go_wp2_with (at_builtin; refine wpList_I (w := wz) rfl _ _ rfl _ (lstN m (k + 1)) rfl (some ⟨wr.heap.size, 0, none⟩) 1 1 [(k : Int) + 1] rfl rfl ?hb (HO.out.below (below_new1 wr (.cells #[.int .i64 ((k : Int) + 1)] 3))) (Src.one (heap_new1 _ _)) ?_; (case hb => (have := HLN.out; omega)); intro v4 w4 h4; have H4 := Lib.hid h4; clear h4)
                    go_roundw
                    case rel => exact ⟨k + 1, by omega, by go_num, by rw [HSN.out, if_pos rfl]; exact H4.out⟩
                    case measure => simp [intOf]; omega
                  | false =>
                    go_wp2
                    go_roundw
                    case rel => exact ⟨k + 1, by omega, by go_num, by rw [HSN.out, if_neg (by simp)]; exact HO.out⟩
                    case measure => simp [intOf]; omega
                · obtain rfl : k = V := by omega
                  have HF : Hid (SupQ w d xs (.returned u16) wr) := Lib.hid (.inr ⟨HG.out, k, m, HS.out, HM.out, u16, rfl, hO.from_ HBW2.out⟩)
                  clear hO
                  go_wp2
                  go_ret
                  exact HF.out
            · obtain ⟨k, rfl⟩ : ∃ k, i = k + 1 := ⟨i - 1, by omega⟩
              rw [show ((k + 1 : Nat) : Int) - 1 = (k : Int) by omega]
              have hkn : k < ol.length := by have := HN5.out; omega
              have hk5 : (k : Int) < (n5 : Int) := by omega
              obtain ⟨g, cap', he, -, -, q0, q1, q2, q3, q4, hin1, hin2⟩ := hnl.node hkn
              injection he with e1 e2 e3
              subst e1
              obtain ⟨hvr, hyr⟩ := HFR.out k hkn
              have hstep := fun (m' : Int → Bool) => BackI.step (m' := m') HOK.out HOO.out HA.out hbk hkn
              obtain ⟨x, hx⟩ : ∃ x, x = ol.getD k node0 := ⟨_, rfl⟩
              rw [← hx] at q0 q1 q2 hin1 hin2 hvr hyr hstep
              obtain ⟨u1, hu1⟩ : ∃ u, u = (us.getD k (undef, undef)).1 := ⟨_, rfl⟩
              obtain ⟨u2, hu2⟩ : ∃ u, u = (us.getD k (undef, undef)).2 := ⟨_, rfl⟩
              rw [← hu1] at q3 hin1
              rw [← hu2] at q4 hin2
              obtain ⟨A1, cap1, rfl, -, y1, y2, -⟩ := id hin1.1
              obtain ⟨A2, cap2, rfl, -, y3, y4, -⟩ := id hin2.1
              obtain ⟨n1, hn1⟩ : ∃ q, q = x.frm.length := ⟨_, rfl⟩
              obtain ⟨n2, hn2⟩ : ∃ q, q = x.vars.length := ⟨_, rfl⟩
              rw [← hn1] at q3 y1 hin1
              rw [← hn2] at q4 y3 hin2
              obtain ⟨xv, hxv⟩ : ∃ q, q = x.vars := ⟨_, rfl⟩
              obtain ⟨fs, hfs⟩ : ∃ q, q = x.frm := ⟨_, rfl⟩
              rw [← hxv] at hin2 hvr hstep hn2
              rw [← hfs] at hin1 hyr hstep hn1
              obtain ⟨rd, hrd⟩ : ∃ r, r = x.read := ⟨_, rfl⟩
              obtain ⟨xm, hxm⟩ : ∃ r, r = x.mem := ⟨_, rfl⟩
              obtain ⟨xp, hxp⟩ : ∃ r, r = x.pos := ⟨_, rfl⟩
              rw [← hrd] at q0
              rw [← hxm] at q1
              rw [← hxp] at q2
              unfold maxLen at y2 y4
              obtain ⟨W1, hW1⟩ : ∃ W1 : World, W1 = wr.alloc (.cells #[.bool rd, .int .i64 xm, .int .i64 xp, .slice A1 n1 cap1, .slice A2 n2 cap2] 46) := ⟨_, rfl⟩
              have hB1' : Below wr.heap.size wr W1 := by rw [hW1]; exact below_new1 wr _
              have hZ : Blk W1 wr.heap.size 46 #[.bool rd, .int .i64 xm, .int .i64 xp, .slice A1 n1 cap1, .slice A2 n2 cap2] := by rw [hW1]; exact Blk.new wr _ _
              obtain ⟨bz, hbz⟩ : ∃ b, b = wr.heap.size := ⟨_, rfl⟩
              rw [← hbz] at hZ
              have HBB1 := Lib.hid hB1'
              have HZ := Lib.hid hZ
              have HNL1 := Lib.hid (hnl.below hB1')
              have HVm1 := Lib.hid (HVm.out.later hB1')
              have HBZ : Hid (bz ≠ bg) := Lib.hid (by have := HVm.out.lt; omega)
              have HI1 : Hid (Ints W1 (.slice A1 n1 cap1) fs ∧ (fs ≠ [] → ∀ k, (Value.slice A1 n1 cap1).ownBlock = some k → ¬ k = bg)) := Lib.hid ⟨hin1.1.below hB1', fun hne q hq e => by have h1 := (hin1.2 hne q hq).2; have h2 := HSB.out q e; omega⟩
              have HI2 := Lib.hid (hin2.1.below hB1')
              have HVR := Lib.hid hvr
              have HYR := Lib.hid hyr
              have HST := Lib.hid hstep
              have HN1 := Lib.hid hn1
              have HN2 := Lib.hid hn2
              have HE1 := Lib.hid hW1
              have HEZ := Lib.hid hbz
              clear hbk hvb hnl hin1 hin2 hvr hyr hstep hn1 hn2 hxv hfs hrd hxm hxp hx hu1 hu2 hW1 hB1' hZ hbz e2 e3 hkn hi0
              go_wp2
              rw [← HE1.out, ← HEZ.out]
              have z3 : W1.cell? ⟨bz, 3, none⟩ = some (.slice A1 n1 cap1) := HZ.out.cell 3
              have z4 : W1.cell? ⟨bz, 4, none⟩ = some (.slice A2 n2 cap2) := HZ.out.cell 4
              clear q0 q1 q2 q3 q4
              go_loopw [12, 13] (fun b c wr => ∃ t : Nat, t ≤ n2 ∧ c = .int .i64 t ∧ b = .bool ((xv.take t).any m) ∧ wr = W1) (fun _ c _ => n2 - (intOf c).toNat)
              case atStart => exact ⟨0, Nat.zero_le _, rfl, rfl, rfl⟩
              case round =>
                obtain ⟨t, ht, rfl, rfl, rfl⟩ := hrel
                by_cases hltt : (t : Int) < (n2 : Int)
                · have htn : t < xv.length := by have := HN2.out; omega
                  obtain ⟨-, hii⟩ := ints_hii HI2.out
                  obtain ⟨b, off, rfl, hcs⟩ := hii.resolve_left (fun e => by rw [e] at htn; simp at htn)
                  have q := hcs t htn
                  have hv := HVR.out (xv.getD t 0) (mem_getD 0 htn)
                  have hts := take_snocI htn
                  obtain ⟨v, hv9⟩ : ∃ v, v = xv.getD t 0 := ⟨_, rfl⟩
                  rw [← hv9] at q hv hts
                  obtain ⟨vn, rfl⟩ : ∃ vn : Nat, v = vn := ⟨v.toNat, by omega⟩
                  have hvV : vn < V + 1 := by omega
                  have hvV2 : (vn : Int) < (V : Int) + 1 := by omega
                  have cb := HVm1.out.cell hvV
                  have hany := any_snoc (xv.take t) vn m
                  rw [← hts] at hany
                  obtain ⟨b1, hb1⟩ : ∃ b, b = (xv.take t).any m := ⟨_, rfl⟩
                  obtain ⟨b2, hb2⟩ : ∃ b, b = m (vn : Int) := ⟨_, rfl⟩
                  rw [← hb1, ← hb2] at hany
                  rw [← hb2] at cb
                  rw [← hb1]
                  have HANY := Lib.hid hany
                  clear hcs hii hts hv9 htn hany hb1 hb2
                  cases b1 with
                  | true =>
                    go_wp2
                    go_roundw
                    case rel => exact ⟨t + 1, by omega, by go_num, by rw [HANY.out]; rfl, by first | rfl | trivial⟩
                    case measure => simp [intOf]; omega
                  | false =>
                    go_wp2
                    go_roundw
                    case rel => exact ⟨t + 1, by omega, by go_num, by rw [HANY.out]; rfl, by first | rfl | trivial⟩
                    case measure => simp [intOf]; omega
                · obtain rfl : t = n2 := by omega
                  have hfull : xv.take t = xv := List.take_of_length_le (by have := HN2.out; omega)
                  rw [hfull]
                  clear hfull
                  have HCW : Hid (∀ W, Chg (fun k => k = bg) wr W → NList B C w W (.slice (some ⟨g, 0, none⟩) n5 cap5) ol us) := Lib.hid fun W hc => HNL1.out.chg hc HSB.out (HNL1.out.low.trans (hc.below HNL1.out.low.size (fun k hk => by rw [hk]; exact HBGr.out.1)))
                  have HC51 : Hid (∀ W, Chg (fun k => k = bg) wr W → Chg (fun k => k = bg) w5 W) := Lib.hid fun W hc => (HC5.out.trans (Chg.of_below (S := fun k => k = bg) HBB1.out) (fun i hi => .inl hi)).trans hc (fun i hi => .inl hi)
                  obtain ⟨bb, hbb⟩ : ∃ b, b = xv.any m := ⟨_, rfl⟩
                  rw [← hbb] at HST ⊢
                  obtain ⟨wp, rfl⟩ : ∃ wp : World, wp = wr := ⟨_, rfl⟩
                  clear hbb
                  cases bb with
                  | false =>
                    go_wp2
                    clear z3 z4
                    go_loopw [14, 15] (fun c _ wr => c = .int .i64 0 ∧ wr = wp) (fun _ _ _ => 0)
                    case atStart => exact ⟨rfl, rfl⟩
                    case round =>
                      obtain ⟨rfl, rfl⟩ := hrel
                      go_wp2
                      go_roundw
                      case rel => exact ⟨k, m, by omega, by first | rfl | go_num, HST.out m (by simp), HVm1.out, HCW.out _ (Chg.refl _ _), HC51.out _ (Chg.refl _ _)⟩
                      case measure => simp [intOf] <;> omega
                  | true =>
                    go_wp2
                    clear z3 z4
                    go_loopw [14, 15] (fun c _ wr => ∃ t : Nat, t ≤ n1 ∧ c = .int .i64 t ∧ VBlk wr bg 4 (V + 1) (fun i => .bool (adds (fs.take t) m i)) ∧ Chg (fun k => k = bg) wp wr) (fun c _ _ => n1 - (intOf c).toNat)
                    case atStart => exact ⟨0, Nat.zero_le _, rfl, by simpa [adds_nil] using HVm1.out, Chg.refl _ _⟩
                    case round =>
                      obtain ⟨t, ht, rfl, hvb, hC⟩ := hrel
                      have HVt := Lib.hid hvb
                      have HCt := Lib.hid hC
                      have z3 : wr.cell? ⟨bz, 3, none⟩ = some (.slice A1 n1 cap1) := (HZ.out.chg hC HBZ.out).cell 3
                      by_cases hltt : (t : Int) < (n1 : Int)
                      · have htn : t < fs.length := by have := HN1.out; omega
                        have hI2 := ints_keep HI1.out.1 hC HI1.out.2
                        obtain ⟨-, hii⟩ := ints_hii hI2
                        obtain ⟨b, off, rfl, hcs⟩ := hii.resolve_left (fun e => by rw [e] at htn; simp at htn)
                        have q := hcs t htn
                        have hy9 := HYR.out (fs.getD t 0) (mem_getD 0 htn)
                        have hts := take_snocI htn
                        obtain ⟨y, hy⟩ : ∃ y, y = fs.getD t 0 := ⟨_, rfl⟩
                        rw [← hy] at q hy9 hts
                        have hvar := r01Var_q y wr (by omega) (by omega)
                        have had := fun u => adds_snoc (fs.take t) y m u
                        rw [← hts] at had
                        obtain ⟨z, hz⟩ : ∃ z : Nat, y / 2 = (z : Int) := ⟨(y / 2).toNat, by omega⟩
                        rw [hz] at hvar had
                        have hzV : z < V + 1 := by omega
                        have hzV2 : (z : Int) < (V : Int) + 1 := by omega
                        have HVAR := Lib.hid hvar
                        have cz := HVt.out.cell hzV
                        have fz := HVt.out.frozen z
                        generalize (Value.bool (adds (fs.take t) m ((z : Nat) : Int))) = old at cz
                        clear hcs hii hts hy htn hvar hI2 hz hvb hC
                        by_cases hz1 : 0 < (z : Int)
                        · have HAD : Hid (∀ u, adds (fs.take (t + 1)) m u = set1 (adds (fs.take t) m) z u) := Lib.hid fun u => by rw [had u, if_pos (by omega)]
                          clear had
                          go_wp2_with (go_at_call 20; refine HVAR.out.mono ?_; rintro e w' ⟨rfl, rfl⟩)
                          go_roundw
                          case rel =>
                            refine ⟨t + 1, by omega, by go_num, (HVt.out.set_ z _).ext (fun i _ => ?_), HCt.out.setCell (p := ⟨bg, z, none⟩) (.inl rfl) _⟩
                            rw [HAD.out]
                            unfold set1
                            by_cases e : i = z
                            · simp [e]
                            · have e2 : (i : Int) ≠ (z : Int) := by omega
                              simp [e, e2]
                          case measure => simp [intOf]; omega
                        · have HAD : Hid (∀ u, adds (fs.take (t + 1)) m u = adds (fs.take t) m u) := Lib.hid fun u => by rw [had u, if_neg (by omega)]
                          clear had
                          go_wp2_with (go_at_call 20; refine HVAR.out.mono ?_; rintro e w' ⟨rfl, rfl⟩)
                          go_roundw
                          case rel => exact ⟨t + 1, by omega, by go_num, HVt.out.ext (fun i _ => by rw [HAD.out]), HCt.out⟩
                          case measure => simp [intOf]; omega
                      · obtain rfl : t = n1 := by omega
                        have hfull : fs.take t = fs := List.take_of_length_le (by have := HN1.out; omega)
                        rw [hfull] at HVt
                        clear hfull hvb hC
                        go_wp2
                        go_roundw
                        case rel => exact ⟨k, adds fs m, by omega, by first | rfl | go_num, HST.out _ (by simp), HVt.out, HCW.out _ HCt.out, HC51.out _ HCt.out⟩
                        case measure => simp [intOf] <;> omega
  · have hb0 : (f != 0) = true := by rw [bne_iff_ne]; exact hf0
    have HN : Hid (¬ GoodN d) := Lib.hid (fun hh => hf0 (by rw [HF0.out]; exact good_iff.2 hh))
    clear hf0
    go_enter Try.func13, Try.ntmps13
    go_wp2_with fail
    refine HT.out.mono ?_
    rintro e w2 ⟨rfl, hb⟩
    have HF : Hid (SupQ w d xs (.returned (.slice none 0 0)) w2) := Lib.hid (.inl ⟨HN.out, RetI.nil ((below_new1 w _).trans (hb.mono (by simp)))⟩)
    clear hb
    go_wp2
    go_ret
    exact HF.out
end Go.Proofs.Ytgnimegdgphlmaa
