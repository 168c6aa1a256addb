/-
  The document's Order, walked.
-/
import Derived.Test.YtgnimegdgphlmaaR6A
import Derived.Test.YtgnimegdgphlmaaTopW
import Derived.Test.YtgnimegdgphlmaaSupM
namespace Go.Proofs.Ytgnimegdgphlmaa
open Go.ChangeShapes Go.WideShapes Go.ChangeAt Go.RowKit
set_option linter.unusedVariables false
set_option linter.unusedSimpArgs false
attribute [local go_sem ↓] Go.wp_at_zero Go.wp_at_succ
/-- What the order tells. -/
def OrdQ (B : Nat) (w : World) (d : NetD) (e : Ending) (w' : World) : Prop :=
  Below w.heap.size w w' ∧
  ((¬ (soundN d = 0 ∧ ∃ V, SoundD d V ∧ Acyc (nodesN d) V) ∧ e = .returned (.tuple #[.slice none 0 0, .bool false])) ∨
   (soundN d = 0 ∧ ∃ V, SoundD d V ∧ ∃ o : Int → Int, ∃ v us, e = .returned (.tuple #[v, .bool true]) ∧ (∀ v : Int, 0 ≤ v → v ≤ V → 0 ≤ o v ∧ Lev (nodesN d) v (o v).toNat) ∧ NList B w.heap.size w w' v (ordN (nodesN d) o (nodesN d).length) us))
def ordP (ls : List NodeD) (o : Int → Int) (a j : Nat) : List NodeD := ordN ls o a ++ (ls.take j).filter (lvAt o a)
theorem ordP_zero (ls : List NodeD) (o : Int → Int) (a : Nat) : ordP ls o a 0 = ordN ls o a := by simp [ordP]
theorem ordP_full (ls : List NodeD) (o : Int → Int) (a : Nat) : ordP ls o a ls.length = ordN ls o (a + 1) := by unfold ordP; rw [ordN_succ, List.take_length]
theorem take_snocN {ls : List NodeD} {j : Nat} (h : j < ls.length) : ls.take (j + 1) = ls.take j ++ [ls.getD j node0] := by
  rw [List.take_add_one, List.getD_eq_getElem?_getD, List.getElem?_eq_getElem h]; rfl
theorem ordP_yes {ls : List NodeD} {o : Int → Int} {a j : Nat} (h : j < ls.length) (hl : lvAt o a (ls.getD j node0) = true) : ordP ls o a (j + 1) = ordP ls o a j ++ [ls.getD j node0] := by
  unfold ordP; rw [take_snocN h, List.filter_append, List.append_assoc, List.filter_cons_of_pos hl]; rfl
theorem ordP_no {ls : List NodeD} {o : Int → Int} {a j : Nat} (h : j < ls.length) (hl : lvAt o a (ls.getD j node0) = false) : ordP ls o a (j + 1) = ordP ls o a j := by
  unfold ordP; rw [take_snocN h, List.filter_append, List.filter_cons_of_neg (by rw [hl]; simp)]; simp
theorem ordN_zero (ls : List NodeD) (o : Int → Int) : ordN ls o 0 = [] := rfl
set_option maxHeartbeats 16000000 in
set_option maxRecDepth 100000 in
theorem r06_Order {wN w : World} {d : NetD} {vi vl vo vb vc vm va : Value} (h0 : NetP wN d vi vl vo vb vc vm va) (hwN : Below wN.heap.size wN w) (hl0 : lightN d = true) :
    Calls Try.prog 17 #[netV d vi vl vo vb vc vm va] w (OrdQ wN.heap.size w d) := by
  have h := h0.below hwN
  obtain ⟨ai, ci, ni, al, cl, nl, ao, co, no, ab, cb, nb, ac, cc, nc, am, cm, nm, aa, ca, na, rfl, rfl, rfl, rfl, rfl, rfl, rfl, -, -⟩ := h.open_ (lightN_iff hl0).1
  obtain ⟨wb, hwb⟩ : ∃ wb, wb = w.alloc (.cells #[.int .i64 d.vars, .slice ai ni ci, .slice al nl cl, .slice ao no co, .slice ab nb cb, .slice ac nc cc, .slice am nm cm, .slice aa na ca] 27) := ⟨_, rfl⟩
  obtain ⟨bx, hbx⟩ : ∃ bx, bx = w.heap.size := ⟨_, rfl⟩
  have HB1 : Hid (Below w.heap.size w wb) := Lib.hid (by rw [hwb]; exact below_new1 w _)
  have HBX : Hid (NBox wb bx d (.slice ai ni ci) (.slice al nl cl) (.slice ao no co) (.slice ab nb cb) (.slice ac nc cc) (.slice am nm cm) (.slice aa na ca)) := Lib.hid (by rw [hwb, hbx]; exact NBox.new w _ _ _ _ _ _ _ _)
  have HP := Lib.hid (h.below HB1.out)
  have HP0 := Lib.hid h0
  have HWN := Lib.hid hwN
  have HL := Lib.hid hl0
  have hlv := r06_Levels HP.out hl0
  unfold netV at hlv ⊢
  rw [hwb] at hlv
  have HLV := Lib.hid hlv
  have HW1 := Lib.hid hwb
  have HBE := Lib.hid hbx
  clear h h0 hwN hl0 hwb hbx hlv
  go_enter Try.func17, Try.ntmps17
  go_wp2_with fail
  refine HLV.out.mono ?_
  rintro e w2 ⟨hb, ⟨h1, rfl⟩ | ⟨hs0, V, hs, ⟨hna, rfl⟩ | ⟨bl, o, rfl, hvb, hpb, hlo⟩⟩⟩
  · rw [← HW1.out] at hb
    have HF : Hid (OrdQ wN.heap.size w d (.returned (.tuple #[.slice none 0 0, .bool false])) w2) := Lib.hid ⟨HB1.out.trans (hb.mono HB1.out.size), .inl ⟨fun hh => h1 hh.1, rfl⟩⟩
    clear hb h1
    go_wp2
    go_ret2
    exact HF.out
  · rw [← HW1.out] at hb
    have HF : Hid (OrdQ wN.heap.size w d (.returned (.tuple #[.slice none 0 0, .bool false])) w2) := Lib.hid ⟨HB1.out.trans (hb.mono HB1.out.size), .inl ⟨fun hh => by
      obtain ⟨-, V', hs', hA'⟩ := hh
      obtain rfl : V' = V := by have := hs.vars; have := hs'.vars; omega
      exact hna hA', rfl⟩⟩
    clear hb hs hna hs0
    go_wp2
    go_ret2
    exact HF.out
  · rw [← HW1.out] at hb hpb
    have hV := hs.lim
    have HS := Lib.hid hs
    have HS0 := Lib.hid hs0
    have HOK := Lib.hid hs.nodes
    have HLEN := Lib.hid (nodes_len hs)
    have HLO := Lib.hid hlo
    have HVB := Lib.hid hvb
    have HB2 := Lib.hid hb
    have HB12 : Hid (Below w.heap.size w w2) := Lib.hid (HB1.out.trans (hb.mono HB1.out.size))
    obtain ⟨c0, c1, c2, c3, c4, c5, c6, c7⟩ := (HBX.out.later hb).all
    rw [HBE.out] at c0 c1 c2 c3 c4 c5 c6 c7
    have hnd := r06_Nodes HP0.out (HWN.out.trans (HB12.out.mono HWN.out.size)) HL.out
    unfold netV at hnd
    have HND := Lib.hid hnd
    clear hb hs hs0 hlo hvb hpb hnd HLV
    go_wp2_with fail
    refine HND.out.mono ?_
    rintro e w4 ⟨v4, us, rfl, hn4⟩
    obtain ⟨ls, hls⟩ : ∃ ls, ls = nodesN d := ⟨_, rfl⟩
    rw [← hls] at hn4 HOK HLEN HLO
    obtain ⟨n, hn⟩ : ∃ n, n = ls.length := ⟨_, rfl⟩
    obtain ⟨A, cap, hv4, z1, z2⟩ := hn4.form
    rw [← hn] at hv4 z1
    subst hv4
    have HLS := Lib.hid hls
    have HN := Lib.hid hn
    have HN4 := Lib.hid hn4
    have HV4 := Lib.hid (HVB.out.later hn4.low)
    have hn9 : n ≤ 2016 := by rw [hn]; exact HLEN.out
    obtain ⟨B, hB⟩ : ∃ B, B = wN.heap.size := ⟨_, rfl⟩
    obtain ⟨C, hC⟩ : ∃ C, C = w2.heap.size := ⟨_, rfl⟩
    obtain ⟨Z, hZ⟩ : ∃ Z, Z = w4.heap.size := ⟨_, rfl⟩
    rw [← hB, ← hC] at HN4
    have HZ := Lib.hid hZ
    have HBB := Lib.hid hB
    have HCC := Lib.hid hC
    have HST : Hid (NList B C w2 w4 (.slice none 0 0) (ordN ls o 0) []) := Lib.hid ⟨rfl, HN4.out.low, World.ownsRow_nil _ _ _ _, (fun k hk => by simp [Value.ownBlock] at hk), HN4.out.base, (fun j hj => absurd hj (by simp [ordN]))⟩
    clear hls hn hn4 c0 c1 c2 c3 c4 c5 c6 c7 HND hB hC hZ
    go_wp2
    go_loopw [7, 8, 9] (fun v at_ _ wr => ∃ a : Nat, ∃ us2, a ≤ n ∧ at_ = .int .i64 ((a : Int) + 1) ∧ NList B C w2 wr v (ordN ls o a) us2 ∧ Below w4.heap.size w4 wr ∧ (∀ k, v.ownBlock = some k → Z ≤ k) ∧ (ordN ls o a).length ≤ a * 2016) (fun _ at_ _ _ => n + 1 - (intOf at_).toNat)
    case atStart => exact ⟨0, [], Nat.zero_le _, rfl, HST.out, Below.refl _ _, (fun k hk => by simp [Value.ownBlock] at hk), by simp [ordN]⟩
    case round =>
      obtain ⟨a, us2, ha, rfl, hNL, hlow, hown, hlen⟩ := hrel
      have HNL := Lib.hid hNL
      have HLOW := Lib.hid hlow
      have HOWN := Lib.hid hown
      by_cases hlt : (a : Int) + 1 ≤ (n : Int)
      · have HNP : Hid (NList B C w2 wr u7 (ordP ls o a 0) us2) := Lib.hid (by rw [ordP_zero]; exact hNL)
        have HLP : Hid ((ordP ls o a 0).length ≤ a * 2016 + 0) := Lib.hid (by rw [ordP_zero]; exact hlen)
        clear hNL hlow hown hlen
        go_wp2
        go_loopw [7, 9] (fun v i wr => ∃ j : Nat, ∃ us3, j ≤ n ∧ i = .int .i64 j ∧ NList B C w2 wr v (ordP ls o a j) us3 ∧ Below w4.heap.size w4 wr ∧ (∀ k, v.ownBlock = some k → Z ≤ k) ∧ (ordP ls o a j).length ≤ a * 2016 + j) (fun _ i _ => n - (intOf i).toNat)
        case atStart => exact ⟨0, us2, Nat.zero_le _, rfl, HNP.out, HLOW.out, HOWN.out, HLP.out⟩
        case round =>
          obtain ⟨j, us3, hj, rfl, hNL, hlow, hown, hlen⟩ := hrel
          have HNLj := Lib.hid hNL
          have HLOWj := Lib.hid hlow
          have HOWNj := Lib.hid hown
          by_cases hltj : (j : Int) < (n : Int)
          · have hjn : j < ls.length := by have := HN.out; omega
            obtain ⟨g, cap', he, -, -, q0, q1, q2, q3, q4, hin1, hin2⟩ := (HN4.out.below hlow).node hjn
            injection he with e1 e2 e3
            subst e1
            have hvne := HOK.out.vne j hjn
            have hvr := HOK.out.vrng j hjn
            have hhd : ∀ xs : List Int, xs ≠ [] → xs.getD 0 0 ∈ xs ∧ xs.headD 0 = xs.getD 0 0 := fun xs hx => by
              cases xs with
              | nil => exact absurd rfl hx
              | cons y ys => simp
            obtain ⟨hvm, hvh⟩ := hhd _ hvne
            have hyes := ordP_yes (o := o) (a := a) hjn
            have hnot := ordP_no (o := o) (a := a) hjn
            unfold lvAt at hyes hnot
            rw [hvh] at hyes hnot
            obtain ⟨x, hx⟩ : ∃ x, x = ls.getD j node0 := ⟨_, rfl⟩
            rw [← hx] at q0 q1 q2 hin1 hin2 hvne hvr hvm hyes hnot
            obtain ⟨u1, hu1⟩ : ∃ u, u = (us.getD j (undef, undef)).1 := ⟨_, rfl⟩
            obtain ⟨u2, hu2⟩ : ∃ u, u = (us.getD j (undef, undef)).2 := ⟨_, rfl⟩
            rw [← hu1] at q3 hin1
            rw [← hu2] at q4 hin2
            have hbk1 := fun hne => ints_blk hin1.1 hne
            have hbk2 := fun hne => ints_blk hin2.1 hne
            have hI1 : ∀ k, x.frm ≠ [] → u1.ownBlock = some k → k < Z ∧ (k < B ∨ C ≤ k) := fun k hne hk => by
              have h1 := hin1.2 hne k hk
              have h2 : k < w4.heap.size := by
                have h3 := (HN4.out.node hjn)
                obtain ⟨g', cap', he', -, -, -, -, -, -, -, h4, -⟩ := h3
                rw [← hu1, ← hx] at h4
                exact ints_blk h4.1 hne k hk
              have := HZ.out
              exact ⟨by omega, h1.2⟩
            have hI2 : ∀ k, x.vars ≠ [] → u2.ownBlock = some k → k < Z ∧ (k < B ∨ C ≤ k) := fun k hne hk => by
              have h1 := hin2.2 hne k hk
              have h2 : k < w4.heap.size := by
                have h3 := (HN4.out.node hjn)
                obtain ⟨g', cap', he', -, -, -, -, -, -, -, -, h4⟩ := h3
                rw [← hu2, ← hx] at h4
                exact ints_blk h4.1 hne k hk
              have := HZ.out
              exact ⟨by omega, h1.2⟩
            obtain ⟨A1, cap1, rfl, -, y1, y2, -⟩ := id hin1.1
            obtain ⟨A2, cap2, rfl, -, y3, y4, y5⟩ := id hin2.1
            obtain ⟨b2, off2, rfl, hcs⟩ := y5.resolve_left hvne
            have qv := hcs 0 (List.length_pos_iff.2 hvne)
            rw [Nat.add_zero] at qv
            have hv0 := hvr _ hvm
            obtain ⟨v0, hv9⟩ : ∃ v0, v0 = x.vars.getD 0 0 := ⟨_, rfl⟩
            rw [← hv9] at qv hv0 hyes hnot
            obtain ⟨vn, rfl⟩ : ∃ vn : Nat, v0 = vn := ⟨v0.toNat, by omega⟩
            have hvV : vn < V + 1 := by omega
            have hvV2 : (vn : Int) < (V : Int) + 1 := by omega
            have clvl := (HV4.out.later hlow).cell hvV
            have hop := HLO.out (vn : Int) (by omega) (by omega)
            obtain ⟨o9, ho9⟩ : ∃ o9, o9 = o (vn : Int) := ⟨_, rfl⟩
            rw [← ho9] at clvl hyes hnot
            have hx0 : 0 < x.vars.length := List.length_pos_iff.2 hvne
            obtain ⟨n1, hn1⟩ : ∃ q, q = x.frm.length := ⟨_, rfl⟩
            obtain ⟨n2, hn2⟩ : ∃ q, q = x.vars.length := ⟨_, rfl⟩
            rw [← hn1] at q3 y1 hin1 hI1
            rw [← hn2] at q4 y3 hin2 hI2 hx0
            obtain ⟨rd, hrd⟩ : ∃ r, r = x.read := ⟨_, rfl⟩
            obtain ⟨xm, hxm⟩ : ∃ r, r = x.mem := ⟨_, rfl⟩
            obtain ⟨xp, hxp⟩ : ∃ r, r = x.pos := ⟨_, rfl⟩
            rw [← hrd] at q0
            rw [← hxm] at q1
            rw [← hxp] at q2
            have HIN1 := Lib.hid hin1
            have HIN2 := Lib.hid hin2
            have HI1 := Lib.hid hI1
            have HI2 := Lib.hid hI2
            have hND : ndC x (.slice A1 n1 cap1, .slice (some ⟨b2, off2, none⟩) n2 cap2) = [.bool rd, .int .i64 xm, .int .i64 xp, .slice A1 n1 cap1, .slice (some ⟨b2, off2, none⟩) n2 cap2] := by rw [hrd, hxm, hxp]; rfl
            have HND := Lib.hid hND
            have hn22 : (0 : Int) < (n2 : Int) := by omega
            unfold maxLen at y2 y4
            clear hND hx hu1 hu2 hbk1 hbk2 hI1 hI2 hin1 hin2 hrd hxm hxp hn1 hn2 ho9 hop hcs hvm hvr hvne hv9 hvh hhd e2 e3 y5 hjn
            by_cases hlv : o9 = ((a + 1 : Nat) : Int)
            · have hbv : (o9 == ((a : Int) + 1)) = true := by rw [beq_iff_eq]; omega
              have HSN := Lib.hid (hyes (decide_eq_true hlv))
              obtain ⟨A3, cap3, hvv, z3, z4⟩ := hNL.form
              obtain ⟨n3, hn3⟩ : ∃ n3, n3 = (ordP ls o a j).length := ⟨_, rfl⟩
              have hn3k : n3 ≤ 5000000 := by omega
              rw [← hn3] at hvv z3
              subst hvv
              have HN3 := Lib.hid hn3
              have HRW := Lib.hid (hNL.below (below_new1 wr (.cells #[.bool rd, .int .i64 xm, .int .i64 xp, .slice A1 n1 cap1, .slice (some ⟨b2, off2, none⟩) n2 cap2] 46))).row
              rw [← hn3] at HRW
              have HSRC := Lib.hid (src5 (w := wr) rd xm xp (.slice A1 n1 cap1) (.slice (some ⟨b2, off2, none⟩) n2 cap2))
              have HLEN2 := Lib.hid hlen
              clear hn3 hyes hnot hlow hown hNL hlv hlen
              go_wp2_with (at_builtin; refine wpList_appS rfl _ _ 40 rfl 46 (.agg #[.bool false, .int .i64 0, .int .i64 0, .slice none 0 0, .slice none 0 0]) 5 72 Try.underlying40 infoN6 rfl (by decide) (.slice A3 n3 cap3) n3 (flat5 (ordP ls o a j) us3) rfl HRW.out (some ⟨wr.heap.size, 0, none⟩) 1 1 [.bool rd, .int .i64 xm, .int .i64 xp, .slice A1 n1 cap1, .slice (some ⟨b2, off2, none⟩) n2 cap2] rfl HSRC.out ?h1 ?h2 ?h3 ?_; (case h1 => (intro u hu; simp at hu; rcases hu with rfl | rfl | rfl | rfl | rfl <;> rfl)); (case h2 => (unfold maxLen; omega)); (case h3 => omega); intro v5 w5 h5; have H5 := Lib.hid h5; clear h5)
              go_roundw
              case rel =>
                have hown3 := HOWNj.out
                have hZ := HZ.out
                have hlow5 : Below w4.heap.size w4 w5 := by
                  have h1 := HLOWj.out.alloc HLOWj.out.size (.cells #[.bool rd, .int .i64 xm, .int .i64 xp, .slice A1 n1 cap1, .slice (some ⟨b2, off2, none⟩) n2 cap2] 46)
                  exact h1.trans (H5.out.2.1.below h1.size (fun i hi => by have := hown3 i hi; omega))
                have hla : Below wr.heap.size wr (wr.alloc (.cells #[.bool rd, .int .i64 xm, .int .i64 xp, .slice A1 n1 cap1, .slice (some ⟨b2, off2, none⟩) n2 cap2] 46)) := below_new1 wr _
                refine ⟨j + 1, us3 ++ [(.slice A1 n1 cap1, .slice (some ⟨b2, off2, none⟩) n2 cap2)], by omega, by go_num, ?_, hlow5, fun k hk => ?_, by rw [HSN.out, List.length_append]; have := HLEN2.out; simp; omega⟩
                · rw [HSN.out]
                  refine (HNLj.out.below hla).app (p := (.slice A1 n1 cap1, .slice (some ⟨b2, off2, none⟩) n2 cap2)) ⟨HIN1.out.1.below hla, fun hne q hq => ?_⟩ ⟨HIN2.out.1.below hla, fun hne q hq => ?_⟩ (by rw [HND.out, ← HN3.out]; exact H5.out)
                  · have h1 := HI1.out q hne hq
                    exact ⟨fun e => by have h2 := hown3 q (by rw [← HN3.out] at *; exact e); omega, h1.2⟩
                  · have h1 := HI2.out q hne hq
                    exact ⟨fun e => by have h2 := hown3 q (by rw [← HN3.out] at *; exact e); omega, h1.2⟩
                · rcases H5.out.2.2 with h1 | h1
                  · exact hown3 k (by rw [← h1]; exact hk)
                  · rw [hk] at h1
                    injection h1 with h1
                    have := hla.size
                    have := HLOWj.out.size
                    omega
              case measure => simp [intOf]; omega
            · have hbv : (o9 == ((a : Int) + 1)) = false := by rw [beq_eq_false_iff_ne]; omega
              have HSN := Lib.hid (hnot (decide_eq_false hlv))
              have HLEN2 := Lib.hid hlen
              clear hyes hnot hlow hown hNL hlv hlen
              go_wp2
              go_roundw
              case rel => exact ⟨j + 1, us3, by omega, by go_num, by rw [HSN.out]; exact HNLj.out, HLOWj.out, HOWNj.out, by rw [HSN.out]; have := HLEN2.out; omega⟩
              case measure => simp [intOf]; omega
          · obtain rfl : j = n := by omega
            have hall : ordP ls o a j = ordN ls o (a + 1) := by rw [HN.out]; exact ordP_full ls o a
            rw [hall] at hNL hlen
            have HNLa := Lib.hid hNL
            clear hall hNL hlow hown
            go_wp2
            go_roundw
            case rel => exact ⟨a + 1, us3, by omega, by simp, HNLa.out, HLOWj.out, HOWNj.out, by omega⟩
            case measure => simp [intOf]; omega
      · obtain rfl : a = n := by omega
        have HF : Hid (OrdQ wN.heap.size w d (.returned (.tuple #[u7, .bool true])) wr) := Lib.hid (by
          have hr := HNL.out.rebase HB12.out
          have hsz := HB12.out.size
          rw [HN.out, HLS.out, HBB.out, HCC.out] at hr
          have hlo := HLO.out
          rw [HLS.out] at hlo
          exact ⟨hr.low, .inr ⟨HS0.out, V, HS.out, o, u7, us2, rfl, hlo, hr.weaken (Nat.le_refl _) hsz⟩⟩)
        clear hNL hlow hown hlen
        go_wp2
        go_ret2
        exact HF.out
end Go.Proofs.Ytgnimegdgphlmaa
