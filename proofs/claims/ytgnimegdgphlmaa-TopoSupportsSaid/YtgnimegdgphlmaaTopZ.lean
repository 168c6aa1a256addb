/-
  Package topo: all, told, Check, Levels, walked.
-/
import Derived.Test.YtgnimegdgphlmaaTopY
namespace Go.Proofs.Ytgnimegdgphlmaa
open Go.ChangeShapes Go.WideShapes Go.ChangeAt Go.RowKit
set_option linter.unusedVariables false
set_option linter.unusedSimpArgs false
attribute [local go_sem ↓] Go.wp_at_zero Go.wp_at_succ
/-- What all tells. -/
def AllQ (w0 : World) (d : NetD) (V : Nat) (vi vl vo vb vc vm va : Value) (bw bo bm bl : Nat) (nv : Value) (W : World) (e : Ending) (w' : World) : Prop :=
  ∃ b, e = .returned (.bool b) ∧ Chg (fun k => k = bm ∨ k = bl) W w' ∧
    ((b = true ∧ ∃ m' lv' : Int → Nat, (∀ v : Int, 0 ≤ v → v ≤ V → Lev (nodesN d) v (lv' v)) ∧ Wk w0 d V vi vl vo vb vc vm va bw bo bm bl nv (nodesN d) (fun i => ofN (nodesN d) i) (fun i => m' i) (fun i => lv' i) w') ∨ (b = false ∧ ¬ Acyc (nodesN d) V))
set_option maxHeartbeats 4000000 in
set_option maxRecDepth 100000 in
theorem topo_all {w0 W : World} {d : NetD} {V : Nat} {vi vl vo vb vc vm va : Value} {bw bo bm bl : Nat} {nv : Value} (hl0 : lightN d = true) (hs : SoundD d V)
    (h : Wk w0 d V vi vl vo vb vc vm va bw bo bm bl nv (nodesN d) (fun i => ofN (nodesN d) i) (fun _ => 0) (fun _ => 0) W) :
    Calls Try.prog 34 #[.pointer (some ⟨bw, 0, none⟩)] W (AllQ w0 d V vi vl vo vb vc vm va bw bo bm bl nv W) := by
  have HVIS := Lib.hid (visit_ (w0 := w0) (vi := vi) (vl := vl) (vo := vo) (vb := vb) (vc := vc) (vm := vm) (va := va) (bw := bw) (bo := bo) (bm := bm) (bl := bl) (nv := nv) hl0 hs (V + 2))
  have HH := Lib.hid h
  have HOK := Lib.hid hs.nodes
  have hV := hs.lim
  obtain ⟨c8, -⟩ := h.c
  clear h hl0 hs
  go_enter Try.func34, Try.ntmps34
  go_wp2
  clear c8
  go_loopw [4, 12] (fun _ c wr => ∃ v : Nat, ∃ m lv : Int → Nat, v ≤ V + 1 ∧ c = .int .i64 v ∧ VS (nodesN d) V m lv ∧ (∀ u, m u ≠ 1) ∧ (∀ u : Int, 0 ≤ u → u < v → ofN (nodesN d) u = 0 ∨ m u = 2) ∧ Wk w0 d V vi vl vo vb vc vm va bw bo bm bl nv (nodesN d) (fun i => ofN (nodesN d) i) (fun i => m i) (fun i => lv i) wr ∧ Chg (fun k => k = bm ∨ k = bl) W wr) (fun _ c _ => V + 1 - (intOf c).toNat)
  case atStart => exact ⟨0, (fun _ => 0), (fun _ => 0), Nat.zero_le _, rfl, VS.start _ _, (fun _ h => by cases h), (fun u h0 h1 => by omega), HH.out, Chg.refl _ _⟩
  case round =>
    obtain ⟨v, m, lv, hv, rfl, hvs, hm1, htd, hW, hC⟩ := hrel
    by_cases hlt : (v : Int) < (V : Int) + 1
    · have hvV : v ≤ V := by omega
      have hcnt : cnt V m < V + 2 := by
        have : cnt V m ≤ (List.range (V + 1)).length := List.countP_le_length
        rw [List.length_range] at this
        omega
      have hvis := HVIS.out m lv v wr hcnt hvV hW hvs (fun u _ _ h1 => absurd h1 (hm1 u))
      have HV := Lib.hid hvis
      have HVS := Lib.hid hvs
      have HM1 := Lib.hid hm1
      have HTD := Lib.hid htd
      have HC := Lib.hid hC
      clear hvis hvs hm1 htd hC hW hcnt
      go_wp2_with fail
      refine HV.out.mono ?_
      rintro e w9 ⟨b, rfl, hc9, hcase⟩
      have HC9 := Lib.hid (HC.out.trans hc9 (fun i hi => .inl hi))
      clear hc9
      rcases hcase with ⟨rfl, m3, lv3, hy3, hk3⟩ | ⟨rfl, hn3⟩
      · have HY3 := Lib.hid hy3
        have HK3 := Lib.hid hk3
        clear hy3 hk3
        go_wp2
        go_roundw
        case rel =>
          refine ⟨v + 1, m3, lv3, by omega, by go_num, HY3.out.vs, fun u h => HM1.out u (HY3.out.one u h), fun u h0 h1 => ?_, HK3.out, HC9.out⟩
          rcases Int.lt_or_le u v with h2 | h2
          · rcases HTD.out u h0 h2 with h3 | h3
            · exact .inl h3
            · exact .inr ((HY3.out.keep u (by omega)).trans h3)
          · obtain rfl : u = v := by omega
            exact HY3.out.told
        case measure => simp [intOf]; omega
      · have HF : Hid (AllQ w0 d V vi vl vo vb vc vm va bw bo bm bl nv W (.returned (.bool false)) w9) := Lib.hid ⟨false, rfl, HC9.out, .inr ⟨rfl, fun hA => by
          obtain ⟨k, hk⟩ := hA v (by omega) (by omega)
          exact hn3 k hk⟩⟩
        clear hn3
        go_wp2
        repeat rw [Exit.noGoto_ret]
        go_ret
        exact HF.out
    · obtain rfl : v = V + 1 := by omega
      have HF : Hid (AllQ w0 d V vi vl vo vb vc vm va bw bo bm bl nv W (.returned (.bool true)) wr) := Lib.hid ⟨true, rfl, hC, .inl ⟨rfl, m, lv, fun u h0 h1 => by
        rcases htd u h0 (by omega) with h | h
        · rw [(hvs.leaf u h).2]; exact ofN_leaf h
        · exact hvs.done u h0 h1 h, hW⟩⟩
      clear hvs hm1 htd hW hC
      go_wp2
      go_ret
      exact HF.out
/-- What told tells. -/
def ToldQ (w : World) (d : NetD) (vi vl vo vb vc vm va : Value) (e : Ending) (w' : World) : Prop :=
  Below w.heap.size w w' ∧
  ((soundN d ≠ 0 ∧ e = .returned (.tuple #[.pointer none, .int .i64 (soundN d)])) ∨
   (soundN d = 0 ∧ ∃ V, SoundD d V ∧ ((¬ Acyc (nodesN d) V ∧ e = .returned (.tuple #[.pointer none, .int .i64 8])) ∨
     ∃ bw bo bm bl nv, ∃ m lv : Int → Nat, e = .returned (.tuple #[.pointer (some ⟨bw, 0, none⟩), .int .i64 0]) ∧ (∀ v : Int, 0 ≤ v → v ≤ V → Lev (nodesN d) v (lv v)) ∧
       Wk w d V vi vl vo vb vc vm va bw bo bm bl nv (nodesN d) (fun i => ofN (nodesN d) i) (fun i => m i) (fun i => lv i) w')))
set_option maxHeartbeats 4000000 in
set_option maxRecDepth 100000 in
theorem topo_told {w : World} {d : NetD} {vi vl vo vb vc vm va : Value} (h : NetP w d vi vl vo vb vc vm va) (hl0 : lightN d = true) :
    Calls Try.prog 22 #[netV d vi vl vo vb vc vm va] w (ToldQ w d vi vl vo vb vc vm va) := by
  obtain ⟨ai, ci, ni, al, cl, nl, ao, co, no, ab, cb, nb, ac, cc, nc, am, cm, nm, aa, ca, na, rfl, rfl, rfl, rfl, rfl, rfl, rfl, -, -⟩ := h.open_ (lightN_iff hl0).1
  obtain ⟨wb, hwb⟩ : ∃ wb, wb = w.alloc (.cells #[.int .i64 d.vars, .slice ai ni ci, .slice al nl cl, .slice ao no co, .slice ab nb cb, .slice ac nc cc, .slice am nm cm, .slice aa na ca] 27) := ⟨_, rfl⟩
  obtain ⟨bx, hbx⟩ : ∃ bx, bx = w.heap.size := ⟨_, rfl⟩
  have HB1 : Hid (Below w.heap.size w wb) := Lib.hid (by rw [hwb]; exact below_new1 w _)
  have HBX : Hid (NBox wb bx d (.slice ai ni ci) (.slice al nl cl) (.slice ao no co) (.slice ab nb cb) (.slice ac nc cc) (.slice am nm cm) (.slice aa na ca)) := Lib.hid (by rw [hwb, hbx]; exact NBox.new w _ _ _ _ _ _ _ _)
  have HP := Lib.hid (h.below HB1.out)
  have HP0 := Lib.hid h
  have hso := net_Sound HP.out hl0
  unfold netV at hso ⊢
  rw [hwb] at hso
  have HSO := Lib.hid hso
  have HW1 := Lib.hid hwb
  have HBE := Lib.hid hbx
  have HL := Lib.hid hl0
  obtain ⟨f, hf⟩ : ∃ f, f = soundN d := ⟨_, rfl⟩
  rw [← hf] at HSO
  have HF0 := Lib.hid hf
  clear h hl0 hwb hbx hso hf
  by_cases hf0 : f = 0
  · have hb0 : (f != 0) = false := by rw [bne_eq_false_iff_eq]; exact hf0
    have HS0 : Hid (soundN d = 0) := Lib.hid (by rw [← HF0.out]; exact hf0)
    obtain ⟨V, hs⟩ := soundN_ok HS0.out
    have HS := Lib.hid hs
    clear hs hf0
    go_enter Try.func22, Try.ntmps22
    go_wp2_with fail
    refine HSO.out.mono ?_
    rintro e w2 ⟨rfl, hb⟩
    rw [← HW1.out] at hb
    have HB2 := Lib.hid hb
    obtain ⟨c0, c1, c2, c3, c4, c5, c6, c7⟩ := (HBX.out.later hb).all
    rw [HBE.out] at c0 c1 c2 c3 c4 c5 c6 c7
    have hwk := topo_walk (HP.out.below hb) HL.out HS.out
    unfold netV at hwk
    have HWK := Lib.hid hwk
    clear hb hwk HSO
    go_wp2_with fail
    refine HWK.out.mono ?_
    rintro e w3 ⟨bw, bo, bm, bl, nv, rfl, hk⟩
    have HK := Lib.hid hk
    have hal := topo_all HL.out HS.out hk
    have HAL := Lib.hid hal
    clear hk hal c0 c1 c2 c3 c4 c5 c6 c7 HWK
    go_wp2_with fail
    refine HAL.out.mono ?_
    rintro e w4 ⟨b, rfl, hc, hcase⟩
    have hB34 : Below w2.heap.size w2 w4 := HK.out.low.trans (hc.below HK.out.low.size (fun i hi => by have := HK.out.pw; omega))
    have HB4 := Lib.hid (HB1.out.trans ((HB2.out.trans (hB34.mono HB2.out.size)).mono HB1.out.size))
    have HB02 := Lib.hid (HB1.out.trans (HB2.out.mono HB1.out.size))
    clear hc hB34
    rcases hcase with ⟨rfl, m, lv, hlv, hk4⟩ | ⟨rfl, hna⟩
    · have HF : Hid (ToldQ w d (.slice ai ni ci) (.slice al nl cl) (.slice ao no co) (.slice ab nb cb) (.slice ac nc cc) (.slice am nm cm) (.slice aa na ca) (.returned (.tuple #[.pointer (some ⟨bw, 0, none⟩), .int .i64 0])) w4) :=
        Lib.hid ⟨HB4.out, .inr ⟨HS0.out, V, HS.out, .inr ⟨bw, bo, bm, bl, nv, m, lv, rfl, hlv, hk4.rebase HP0.out HB02.out⟩⟩⟩
      clear hlv hk4
      go_wp2
      go_ret2
      exact HF.out
    · have HF : Hid (ToldQ w d (.slice ai ni ci) (.slice al nl cl) (.slice ao no co) (.slice ab nb cb) (.slice ac nc cc) (.slice am nm cm) (.slice aa na ca) (.returned (.tuple #[.pointer none, .int .i64 8])) w4) :=
        Lib.hid ⟨HB4.out, .inr ⟨HS0.out, V, HS.out, .inl ⟨hna, rfl⟩⟩⟩
      clear hna
      go_wp2
      go_ret2
      exact HF.out
  · have hb0 : (f != 0) = true := by rw [bne_iff_ne]; exact hf0
    have HNE : Hid (soundN d ≠ 0) := Lib.hid (by rw [← HF0.out]; exact hf0)
    clear hf0
    go_enter Try.func22, Try.ntmps22
    go_wp2_with fail
    refine HSO.out.mono ?_
    rintro e w2 ⟨rfl, hb⟩
    rw [← HW1.out] at hb
    have HF : Hid (ToldQ w d (.slice ai ni ci) (.slice al nl cl) (.slice ao no co) (.slice ab nb cb) (.slice ac nc cc) (.slice am nm cm) (.slice aa na ca) (.returned (.tuple #[.pointer none, .int .i64 f])) w2) :=
      Lib.hid ⟨HB1.out.trans (hb.mono HB1.out.size), .inl ⟨HNE.out, by rw [HF0.out]⟩⟩
    clear hb
    go_wp2
    go_ret2
    exact HF.out
end Go.Proofs.Ytgnimegdgphlmaa
