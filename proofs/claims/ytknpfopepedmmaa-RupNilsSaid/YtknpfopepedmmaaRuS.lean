/-
  Package rup: all that is told is spread, walked.
-/
import Derived.Test.YtknpfopepedmmaaRuQ
namespace Go.Proofs.Ytknpfopepedmmaa
open Go Go.ChangeShapes Go.WideShapes Go.ChangeAt Go.RowKit Go.Maps
set_option linter.unusedVariables false
set_option linter.unusedSimpArgs false
theorem tmO : Try.prog.underlying 69 = some (.map 3 eSl.e) := Try.underlying69
theorem tmB : Try.prog.underlying 68 = some (.map 3 eBool.e) := Try.underlying68
section
variable {w : World} {r : Nat} {S : RS} {vl vt : Value} {bt bo bm nt no nm : Nat} {us : List Value} {ho : Int → Option (Option (Nat × Nat × Nat))}
theorem KP.asgQ (h : KP w r S vl vt bt bo bm nt no nm us ho) : AsgQ w r S vl vt bt bo bm nt no us ho w := ⟨vt, nm, h, Chg.refl _ _, .inl rfl⟩
theorem AsgQ.trans {w1 w2 : World} {S1 S2 : RS} {vt1 : Value} {nm1 : Nat} (h1 : KP w1 r S1 vl vt1 bt bo bm nt no nm1 us ho) (c1 : Chg (fun k => k = r ∨ k = bm ∨ vt.ownBlock = some k) w w1) (o1 : vt1.ownBlock = vt.ownBlock ∨ ∃ g, vt1.ownBlock = some g ∧ w.heap.size ≤ g)
    (h : AsgQ w1 r S2 vl vt1 bt bo bm nt no us ho w2) : AsgQ w r S2 vl vt bt bo bm nt no us ho w2 := by
  obtain ⟨vt2, nm2, k, c2, o2⟩ := h
  refine ⟨vt2, nm2, k, c1.trans c2 (fun i hi => ?_), ?_⟩
  · rcases hi with e | e | e
    · exact .inl (.inl e)
    · exact .inl (.inr (.inl e))
    · rcases o1 with o1 | ⟨g, o1, hg⟩
      · rw [o1] at e; exact .inl (.inr (.inr e))
      · rw [o1] at e; injection e with e; exact .inr (by omega)
  · rcases o2 with o2 | ⟨g, o2, hg⟩
    · rcases o1 with o1 | ⟨g, o1, hg⟩
      · exact .inl (o2.trans o1)
      · exact .inr ⟨g, o2.trans o1, hg⟩
    · exact .inr ⟨g, o2, Nat.le_trans c1.size hg⟩
theorem AsgQ.below {w1 w2 : World} (h : AsgQ w r S vl vt bt bo bm nt no us ho w1) (hb : Below w1.heap.size w1 w2) : AsgQ w r S vl vt bt bo bm nt no us ho w2 := by
  obtain ⟨vt1, nm1, k, c, o⟩ := h
  exact ⟨vt1, nm1, k.below hb, c.trans (Chg.of_below (S := fun _ => False) hb) (fun i hi => hi.elim), o⟩
theorem on_look (h : KP w r S vl vt bt bo bm nt no nm us ho) {i : Nat} (hi : i < 4611686018427387904) : (Instr.lookup 68 (.map (some bt)) (.int .i64 (i : Nat)) false).run Try.prog w = .ok (.bool (S.onA i)) w := by
  have := h.t.look tmB (x := (i : Int)) ⟨by omega, by omega⟩
  rw [this]
  unfold onF
  cases hh : S.onA i with
  | true => rw [if_pos ⟨by omega, by rw [Int.toNat_natCast]; exact hh⟩]; rfl
  | false => rw [if_neg (fun hx => by rw [Int.toNat_natCast, hh] at hx; exact absurd hx.2 (by decide))]; rfl
theorem of_look (h : KP w r S vl vt bt bo bm nt no nm us ho) {x : Int} (hx : in64 x) : (Instr.lookup 69 (.map (some bo)) (.int .i64 x) false).run Try.prog w = .ok (hv ho x) w := h.o.look tmO hx
/-- What the spread comes to, in memory. -/
def SprQ (w : World) (r : Nat) (R : RS × Int) (vl vt : Value) (bt bo bm nt no : Nat) (us : List Value) (ho : Int → Option (Option (Nat × Nat × Nat))) (e : Ending) (w' : World) : Prop := e = .returned (.int .i64 R.2) ∧ AsgQ w r R.1 vl vt bt bo bm nt no us ho w'
theorem us_at (h : KP w r S vl vt bt bo bm nt no nm us ho) {i : Nat} (hi : i < S.cl.length) : ∃ g cap a c2, vl = .slice (some ⟨g, 0, none⟩) S.cl.length cap ∧ w.cell? ⟨g, i, none⟩ = some (.slice a (S.c i).length c2) ∧ Ints w (.slice a (S.c i).length c2) (S.c i) := by
  rcases h.l.form with ⟨-, h0, -⟩ | ⟨g, cap, e, -, -, -, hc⟩
  · omega
  · have h1 := hc i (by rw [h.c.1]; exact hi)
    have h2 := (h.c.2 i hi).1
    obtain ⟨a, c2, e2, -⟩ := h2
    have e3 : us.getD i undef = .slice a (S.c i).length c2 := e2
    refine ⟨g, cap, a, c2, e, ?_, ?_⟩
    · rw [h1.1, e3]
    · have h2 := (h.c.2 i hi).1
      rw [e3] at h2
      exact h2
set_option maxHeartbeats 8000000 in
set_option maxRecDepth 100000 in
theorem spread_ {A : List Int} (h : KP w r S vl vt bt bo bm nt no nm us ho) (hI : RInv S A) (hcl : S.cl.length ≤ 1000000) {p : Nat} (hp : p ≤ S.tr.length) {f : Nat} (hf : 1073741824 < f + p) :
    Calls Try.prog 51 #[kp r, .int .i64 (p : Nat)] w (SprQ w r (RS.spread f S p) vl vt bt bo bm nt no us ho) := by
  obtain ⟨R, hR⟩ : ∃ R, R = RS.spread f S p := ⟨_, rfl⟩
  rw [← hR]
  have H0 : Hid (∃ (fx q : Nat) (T : RS), (p : Int) = (q : Int) ∧ q ≤ T.tr.length ∧ AsgQ w r T vl vt bt bo bm nt no us ho w ∧ RInv T A ∧ T.cl = S.cl ∧ RS.spread fx T q = R ∧ 1073741824 < fx + q) := Lib.hid ⟨f, p, S, rfl, hp, h.asgQ, hI, rfl, hR.symm, hf⟩
  have HCL := Lib.hid hcl
  clear h hI hcl hp hf hR
  go_enter Try.func51, Try.ntmps51
  go_wp2
  go_loopw [1] (fun c wr => ∃ (fx q : Nat) (T : RS), c = .int .i64 (q : Nat) ∧ q ≤ T.tr.length ∧ AsgQ w r T vl vt bt bo bm nt no us ho wr ∧ RInv T A ∧ T.cl = S.cl ∧ RS.spread fx T q = R ∧ 1073741824 < fx + q) (fun c _ => 1073741825 - (intOf c).toNat)
  case atStart =>
    obtain ⟨fx, q, T, h1, h2⟩ := H0.out
    exact ⟨fx, q, T, by rw [h1], h2⟩
  case round =>
    obtain ⟨fx, q, T, rfl, hq, hK, hI, hTC, hS, hfx⟩ := hrel
    obtain ⟨vt1, nm1, hk, hch, hown⟩ := hK
    have hlen : T.tr.length ≤ 1073741824 := by rw [← T.T_len]; exact hI.con.len
    have c4 : wr.cell? ⟨r, 4, none⟩ = some vt1 := hk.b.cell 4
    have c2 : wr.cell? ⟨r, 2, none⟩ = some (.map (some bo)) := hk.b.cell 2
    have HK := Lib.hid hk
    have HCH := Lib.hid hch
    have HOWN := Lib.hid hown
    have HI := Lib.hid hI
    have HTC := Lib.hid hTC
    have HS := Lib.hid hS
    obtain ⟨at1, ct1, hvt1⟩ : ∃ a c, vt1 = .slice a T.tr.length c := by
      rcases hk.tr.form with ⟨e, e0, -⟩ | ⟨g, cap, e, -⟩
      · exact ⟨none, 0, by rw [e, e0]⟩
      · exact ⟨_, _, e⟩
    obtain ⟨nt1, hnt1⟩ : ∃ n, n = T.tr.length := ⟨_, rfl⟩
    have HNT := Lib.hid hnt1
    rw [← hnt1] at hvt1 hq hlen
    clear hI hch hown hS hTC hnt1
    by_cases hlt : (q : Int) < (nt1 : Int)
    · have hqt : q < T.tr.length := by have := HNT.out; omega
      obtain ⟨f', hff⟩ : ∃ f', fx = f' + 1 := ⟨fx - 1, by omega⟩
      have HFF : Hid (1073741824 < f' + (q + 1)) := Lib.hid (by omega)
      obtain ⟨l, hl⟩ : ∃ l, l = (T.tr.getD q (0, 0)).1 := ⟨_, rfl⟩
      have hlB : lit30 l := by
        rw [hl, ← getD_T, List.getD_eq_getElem?_getD, List.getElem?_eq_getElem (by rw [T.T_len]; exact hqt)]
        exact HI.out.con.li _ (List.getElem_mem _)
      have hcell : ∃ g cap, vt1 = .slice (some ⟨g, 0, none⟩) nt1 cap ∧ wr.cell? ⟨g, q, none⟩ = some (.int .i64 l) := by
        rcases HK.out.tr.form with ⟨-, h0, -⟩ | ⟨g, cap, e, -, -, -, hc⟩
        · omega
        · refine ⟨g, cap, by rw [e, HNT.out], ?_⟩
          rw [(hc q (by rw [List.length_map, T.T_len]; exact hqt)).1, hl, ← getD_T]
          rw [List.getD_eq_getElem?_getD, List.getElem?_map, List.getD_eq_getElem?_getD, List.getElem?_eq_getElem (by rw [T.T_len]; exact hqt)]
          rfl
      obtain ⟨g, cap, hvg, hcg⟩ := hcell
      rw [hvg] at hvt1 c4
      have hw : IntKind.i64.wrap (-l) = -l := IntWalk.i64_in _ (by obtain ⟨a, b, c⟩ := hlB; omega)
      have hin : in64 (-l) := by obtain ⟨a, b, c⟩ := hlB; exact ⟨by omega, by omega⟩
      have hlk := of_look HK.out hin
      obtain ⟨ids, hids⟩ : ∃ ids, ids = T.ofL (-l) := ⟨_, rfl⟩
      have hrow : ∀ W ho', Row W 3 1 (hv ho' (-l)) ids.length (ids.map fun i => iv (i : Nat)) → True := fun _ _ _ => trivial
      obtain ⟨ah, ch, hvh⟩ : ∃ a c, hv ho (-l) = .slice a ids.length c := by
        have hof := HK.out.of (-l)
        rw [← hids] at hof
        rcases hof.form with ⟨e, e0, -⟩ | ⟨g, cap, e, -⟩
        · exact ⟨none, 0, by rw [e, e0]⟩
        · exact ⟨_, _, e⟩
      rw [hvh] at hlk
      have hlkd : (Instr.lookup 69 (.map (some bo)) (.int .i64 (-l)) false).run Try.prog wr.drew = .ok (.slice ah ids.length ch) wr.drew := by
        have := of_look (HK.out.below (Below.refl _ wr).drew) hin
        rw [hvh] at this
        exact this
      have HS2 : Hid ((if (T.visit ids).2 = -1 then (T.visit ids).1.spread f' (q + 1) else T.visit ids) = R) := Lib.hid (by
        have e := HS.out
        rw [hff, RS.spread, if_pos hqt, ← hl, ← hids] at e
        exact e)
      have HIDS : Hid (∀ i ∈ ids, i < T.cl.length) := Lib.hid fun i hi => by rw [hids] at hi; exact (ofL_mem.1 hi).1
      have HROW : Hid (∀ (W : World) (T2 : RS) (vt2 : Value) (nm2 : Nat), T2.cl = T.cl → KP W r T2 vl vt2 bt bo bm nt no nm2 us ho → ∀ j, j < ids.length → ∃ gh, ah = some ⟨gh, 0, none⟩ ∧ W.cell? ⟨gh, j, none⟩ = some (.int .i64 ((ids.getD j 0 : Nat) : Int))) := Lib.hid fun W T2 vt2 nm2 he hk2 j hj => by
        have hof := hk2.of (-l)
        have e1 : T2.ofL (-l) = ids := by rw [hids]; unfold RS.ofL RS.c; rw [he]
        rw [e1, hvh] at hof
        rcases hof.form with ⟨e, e0, -⟩ | ⟨gh, cap, e, -, -, -, hc⟩
        · omega
        · injection e with ea eb ec
          refine ⟨gh, ea, ?_⟩
          rw [(hc j (by rw [List.length_map]; exact hj)).1, List.getD_eq_getElem?_getD, List.getElem?_map, List.getD_eq_getElem?_getD, List.getElem?_eq_getElem hj]
          rfl
      obtain ⟨m, hm⟩ : ∃ m, m = ids.length := ⟨_, rfl⟩
      have HM := Lib.hid hm
      have hm9 : m ≤ 1000000 := by
        have h1 : ids.length ≤ (List.range T.cl.length).length := by rw [hids]; exact List.length_filter_le _ _
        rw [List.length_range, HTC.out] at h1
        have := HCL.out; omega
      rw [← hm] at hlk hlkd
      have HV0 : Hid (∃ V, V = T.visit ids) := Lib.hid ⟨_, rfl⟩
      obtain ⟨V, hV⟩ := HV0.out
      rw [← hV] at HS2
      have HVV := Lib.hid hV
      have HA1 : Hid (AsgQ w r T vl vt bt bo bm nt no us ho wr.drew) := Lib.hid (AsgQ.below ⟨vt1, nm1, HK.out, HCH.out, HOWN.out⟩ (Below.refl _ wr).drew)
      have c4d : wr.drew.cell? ⟨r, 4, none⟩ = some (.slice (some ⟨g, 0, none⟩) nt1 cap) := c4
      have c2d : wr.drew.cell? ⟨r, 2, none⟩ = some (.map (some bo)) := c2
      have hcgd : wr.drew.cell? ⟨g, q, none⟩ = some (.int .i64 l) := hcg
      have HLL := Lib.hid hl
      clear hk hl hids hrow hvh hm hV hff hvg hvt1
      go_wp2
      go_region
      go_wp2
      obtain ⟨wo, rfl⟩ : ∃ wo : World, wo = wr := ⟨_, rfl⟩
      clear hlk hlkd c4d c2d hcgd c4 c2 hcg
      go_loopw [32] (fun c wr => ∃ (j : Nat) (T2 : RS), j ≤ m ∧ c = .int .i64 (j : Nat) ∧ AsgQ w r T2 vl vt bt bo bm nt no us ho wr ∧ RInv T2 A ∧ (T2.cl = T.cl ∧ nt1 ≤ T2.tr.length) ∧ T2.visit (ids.drop j) = V) (fun c _ => m - (intOf c).toNat)
      case atStart => exact ⟨0, T, Nat.zero_le _, rfl, HA1.out, HI.out, ⟨rfl, by rw [HNT.out]; exact Nat.le_refl _⟩, HVV.out.symm⟩
      case round =>
        obtain ⟨j, T2, hj, rfl, hK2, hI2, ⟨hC2, hG2⟩, hV2⟩ := hrel
        obtain ⟨vt2, nm2, hk2, hch2, hown2⟩ := hK2
        have HK2 := Lib.hid hk2
        have HCH2 := Lib.hid hch2
        have HOWN2 := Lib.hid hown2
        have HI2 := Lib.hid hI2
        have HC2 := Lib.hid hC2
        have HG2 := Lib.hid hG2
        have HV2 := Lib.hid hV2
        clear hk2 hch2 hown2 hI2 hC2 hV2 hG2
        by_cases hjl : (j : Int) < (m : Int)
        · have hjd : j < ids.length := by have := HM.out; omega
          obtain ⟨gh, rfl, qi⟩ := HROW.out wr T2 vt2 nm2 HC2.out HK2.out j hjd
          obtain ⟨i, hi⟩ : ∃ i, i = ids.getD j 0 := ⟨_, rfl⟩
          rw [← hi] at qi
          have hd : ids.drop j = i :: ids.drop (j + 1) := by
            rw [List.drop_eq_getElem_cons hjd, hi, List.getD_eq_getElem?_getD, List.getElem?_eq_getElem hjd]; rfl
          have hiT : i < T2.cl.length := by
            rw [HC2.out]
            refine HIDS.out i ?_
            rw [hi, List.getD_eq_getElem?_getD, List.getElem?_eq_getElem hjd]; exact List.getElem_mem hjd
          have hi9 : i < 1000000 := by have h1 := HCL.out; have h2 := HTC.out; have h3 := HC2.out; rw [h3, h2] at hiT; omega
          have k1 : wr.cell? ⟨r, 1, none⟩ = some (.map (some bt)) := HK2.out.b.cell 1
          have hlo := on_look HK2.out (i := i) (by omega)
          have hV := HV2.out
          rw [hd, RS.visit] at hV
          cases hon : T2.onA i with
          | false =>
            rw [hon] at hlo
            rw [if_pos hon] at hV
            have HN := Lib.hid hV
            clear hV hd hi hiT hjd hon
            go_wp2
            go_roundw
            case rel => exact ⟨j + 1, T2, by omega, by go_num, ⟨vt2, nm2, HK2.out, HCH2.out, HOWN2.out⟩, HI2.out, ⟨HC2.out, HG2.out⟩, HN.out⟩
            case measure => simp [intOf]; omega
          | true =>
            rw [hon] at hlo
            rw [if_neg (by rw [hon]; decide)] at hV
            obtain ⟨gl, cl, au, cu, hvl, qu, hu⟩ := us_at HK2.out hiT
            have k0 : wr.cell? ⟨r, 0, none⟩ = some vl := HK2.out.b.cell 0
            obtain ⟨c1, c2⟩ := HI2.out.c0 i hiT
            have HLK := Lib.hid (look_ HK2.out HI2.out.con hu c1 c2)
            have HON := Lib.hid hon
            have HIT := Lib.hid hiT
            have hlen2 : i < T2.cl.length := hiT
            obtain ⟨n2, hn2⟩ : ∃ n, n = T2.cl.length := ⟨_, rfl⟩
            rw [hvl, ← hn2] at k0
            rw [← hn2] at hlen2
            have hlen3 : (i : Int) < (n2 : Int) := by omega
            have HVC := Lib.hid hV
            obtain ⟨nu, hnu⟩ : ∃ n, n = (T2.c i).length := ⟨_, rfl⟩
            rw [← hnu] at qu HLK
            obtain ⟨tl, htl⟩ : ∃ tl, tl = telR (T2.c i) T2.T := ⟨_, rfl⟩
            obtain ⟨fl, hfl⟩ : ∃ fl, fl = falR (T2.c i) T2.T := ⟨_, rfl⟩
            rw [← htl, ← hfl] at HLK
            have HTL := Lib.hid htl
            have HFL := Lib.hid hfl
            clear hV hd hi hiT hjd hon hu c1 c2 hn2 hnu htl hfl hvl hlen2
            go_wp2_with fail
            refine HLK.out.mono ?_
            rintro e w1 ⟨rfl, hb1⟩
            have HK3 := Lib.hid (HK2.out.below hb1)
            have HA3 : Hid (AsgQ w r T2 vl vt bt bo bm nt no us ho w1) := Lib.hid (AsgQ.below ⟨vt2, nm2, HK2.out, HCH2.out, HOWN2.out⟩ hb1)
            have HC3 := Lib.hid (HCH2.out.trans (Chg.of_below (S := fun _ => False) hb1) (fun i hi => hi.elim))
            clear hb1 qu qi
            cases fl with
            | true =>
              have HF : Hid (SprQ w r R vl vt bt bo bm nt no us ho (.returned (.int .i64 (i : Nat))) w1) := Lib.hid (by
                have e1 := HVC.out
                rw [if_pos HFL.out.symm] at e1
                have e2 := HS2.out
                rw [← e1, if_neg (by show ¬ (i : Int) = -1; omega)] at e2
                rw [← e2]
                exact ⟨rfl, HA3.out⟩)
              go_wp2
              go_ret
              exact HF.out
            | false =>
              by_cases ht : tl = 0
              · have HN : Hid (T2.visit (ids.drop (j + 1)) = V) := Lib.hid (by
                  have e1 := HVC.out
                  rw [if_neg (by rw [← HFL.out]; decide), if_neg (by rw [← HTL.out, ht]; decide)] at e1
                  exact e1)
                subst ht
                go_wp2
                go_roundw
                case rel => exact ⟨j + 1, T2, by omega, by go_num, HA3.out, HI2.out, ⟨HC2.out, HG2.out⟩, HN.out⟩
                case measure => simp [intOf]; omega
              · have hne : telR (T2.c i) T2.T ≠ 0 := by rw [← HTL.out]; exact ht
                have HN : Hid ((T2.asg tl (i : Int)).visit (ids.drop (j + 1)) = V) := Lib.hid (by
                  have e1 := HVC.out
                  rw [if_neg (by rw [← HFL.out]; decide), if_pos hne, ← HTL.out] at e1
                  exact e1)
                obtain ⟨t1, t2, t3⟩ := tel_ne (HI2.out.nz HIT.out) hne
                have HI4 : Hid (RInv (T2.asg tl (i : Int)) A) := Lib.hid (by rw [HTL.out]; exact asg_inv HI2.out HIT.out HON.out hne)
                have HAS := Lib.hid (assign_ HK3.out HI2.out.con (l := tl) (b := (i : Int)) (by rw [HTL.out]; exact (HI2.out.c0 i HIT.out).1 _ t1) (by rw [HTL.out]; exact t2))
                have HG4 : Hid (nt1 ≤ (T2.asg tl (i : Int)).tr.length) := Lib.hid (by
                  have e1 : (T2.asg tl (i : Int)).tr.length = T2.tr.length + 1 := by simp [RS.asg]
                  have := HG2.out
                  omega)
                have hh : (tl != 0) = true := by rw [bne_iff_ne]; exact ht
                clear t1 t2 t3 hne
                go_wp2_with fail
                refine HAS.out.mono ?_
                rintro e w2 ⟨rfl, hq2⟩
                have HA4 := Lib.hid (AsgQ.trans HK3.out HC3.out HOWN2.out hq2)
                clear hq2
                go_wp2
                go_roundw
                case rel => exact ⟨j + 1, T2.asg tl (i : Int), by omega, by go_num, HA4.out, HI4.out, ⟨HC2.out, HG4.out⟩, HN.out⟩
                case measure => simp [intOf]; omega
        · obtain rfl : j = m := by omega
          have HN : Hid (RS.spread f' T2 (q + 1) = R) := Lib.hid (by
            have e1 := HV2.out
            rw [List.drop_eq_nil_of_le (by rw [← HM.out]; exact Nat.le_refl _), RS.visit] at e1
            have e2 := HS2.out
            rw [← e1, if_pos rfl] at e2
            exact e2)
          have hw1 : IntKind.i64.wrap ((q : Int) + 1) = (q : Int) + 1 := IntWalk.i64_in _ (by omega)
          go_wp2
          go_roundw
          case rel => exact ⟨f', q + 1, T2, by go_num, by have := HG2.out; omega, ⟨vt2, nm2, HK2.out, HCH2.out, HOWN2.out⟩, HI2.out, HC2.out.trans HTC.out, HN.out, HFF.out⟩
          case measure => simp [intOf]; omega
    · obtain rfl : q = nt1 := by omega
      have HF : Hid (SprQ w r R vl vt bt bo bm nt no us ho (.returned (.int .i64 (-1))) wr) := Lib.hid (by
        obtain ⟨f', rfl⟩ : ∃ f', fx = f' + 1 := ⟨fx - 1, by omega⟩
        have e := HS.out
        rw [RS.spread, if_neg (by have := HNT.out; omega)] at e
        rw [← e]
        exact ⟨rfl, vt1, nm1, HK.out, HCH.out, HOWN.out⟩)
      clear hk
      subst hvt1
      go_wp2
      go_ret
      exact HF.out
end
end Go.Proofs.Ytknpfopepedmmaa
