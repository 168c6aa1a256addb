/-
  Package topo: Check, Levels; the document's Check: walked.
-/
import Derived.Test.YtlahecdpcpejpaaDoorTopY
import Derived.Test.YtlahecdpcpejpaaDoorR6A
namespace Go.Proofs.YtlahecdpcpejpaaDoor
open Go.ChangeShapes Go.WideShapes Go.ChangeAt Go.RowKit
set_option linter.unusedVariables false
set_option linter.unusedSimpArgs false
attribute [local go_sem ↓] Go.wp_at_zero Go.wp_at_succ
open Classical in
/-- What Check tells. -/
noncomputable def checkN (d : NetD) : Int := if soundN d = 0 then (if Acyc (nodesN d) d.vars.toNat then 0 else 8) else soundN d
theorem checkN_bad {d : NetD} (h : soundN d ≠ 0) : checkN d = soundN d := by unfold checkN; rw [if_neg h]
theorem checkN_yes {d : NetD} {V : Nat} (h : soundN d = 0) (hs : SoundD d V) (ha : Acyc (nodesN d) V) : checkN d = 0 := by
  unfold checkN; rw [if_pos h, if_pos]; rw [hs.vars]; exact ha
theorem checkN_no {d : NetD} {V : Nat} (h : soundN d = 0) (hs : SoundD d V) (ha : ¬ Acyc (nodesN d) V) : checkN d = 8 := by
  unfold checkN; rw [if_pos h, if_neg]; rw [hs.vars]; exact ha
def GoodN (d : NetD) : Prop := soundN d = 0 ∧ ∃ V, SoundD d V ∧ Acyc (nodesN d) V
theorem good_iff {d : NetD} : checkN d = 0 ↔ GoodN d := by
  constructor
  · intro h
    by_cases h0 : soundN d = 0
    · obtain ⟨V, hs⟩ := soundN_ok h0
      refine ⟨h0, V, hs, ?_⟩
      by_cases hA : Acyc (nodesN d) V
      · exact hA
      · rw [checkN_no h0 hs hA] at h; cases h
    · rw [checkN_bad h0] at h; exact absurd h h0
  · rintro ⟨h0, V, hs, hA⟩
    exact checkN_yes h0 hs hA
theorem ToldQ.code {w : World} {d : NetD} {vi vl vo vb vc vm va : Value} {e : Ending} {w' : World} (h : ToldQ w d vi vl vo vb vc vm va e w') : ∃ p, e = .returned (.tuple #[.pointer p, .int .i64 (checkN d)]) := by
  obtain ⟨-, ⟨h1, rfl⟩ | ⟨h0, V, hs, ⟨hn, rfl⟩ | ⟨bw, bo, bm, bl, nv, m, lv, rfl, hl, -⟩⟩⟩ := h
  · exact ⟨none, by rw [checkN_bad h1]⟩
  · exact ⟨none, by rw [checkN_no h0 hs hn]⟩
  · exact ⟨_, by rw [checkN_yes h0 hs (fun v a b => ⟨_, hl v a b⟩)]⟩
set_option maxHeartbeats 1000000 in
theorem topo_Check {w : World} {d : NetD} {vi vl vo vb vc vm va : Value} (h : NetP w d vi vl vo vb vc vm va) (hl0 : lightN d = true) :
    Calls Tryd.prog 27 #[netV d vi vl vo vb vc vm va] w (RetF w (checkN d)) := by
  obtain ⟨ai, ci, ni, al, cl, nl, ao, co, no, ab, cb, nb, ac, cc, nc, am, cm, nm, aa, ca, na, rfl, rfl, rfl, rfl, rfl, rfl, rfl, -, -⟩ := h.open_ (lightN_iff hl0).1
  have ht := topo_told (h.below (below_new1 w (.cells #[.int .i64 d.vars, .slice ai ni ci, .slice al nl cl, .slice ao no co, .slice ab nb cb, .slice ac nc cc, .slice am nm cm, .slice aa na ca] 28))) hl0
  unfold netV at ht ⊢
  have HT := Lib.hid ht
  clear h hl0 ht
  go_enter Tryd.func27, Tryd.ntmps27
  go_wp2_with fail
  refine HT.out.mono ?_
  rintro e w2 hq
  obtain ⟨p, rfl⟩ := hq.code
  have HB := Lib.hid ((below_new1 w _).trans (hq.1.mono (by simp)))
  obtain ⟨c, hc⟩ : ∃ c, c = checkN d := ⟨_, rfl⟩
  have HF : Hid (RetF w (checkN d) (.returned (.int .i64 c)) w2) := Lib.hid ⟨by rw [hc], HB.out⟩
  rw [← hc]
  clear hq hc
  go_wp2
  go_ret
  first
    | exact HF.out
    | exact ⟨rfl, HB.out⟩
/-- What Levels tells. -/
def LevQ (w : World) (d : NetD) (e : Ending) (w' : World) : Prop :=
  Below w.heap.size w w' ∧
  ((checkN d ≠ 0 ∧ e = .returned (.tuple #[.slice none 0 0, .bool false])) ∨
   (checkN d = 0 ∧ ∃ V, SoundD d V ∧ ∃ bl, ∃ lv : Int → Nat, e = .returned (.tuple #[.slice (some ⟨bl, 0, none⟩) (V + 1) (V + 1), .bool true]) ∧ VBlk w' bl 3 (V + 1) (fun i => .int .i64 (lv i)) ∧ w.heap.size ≤ bl ∧ ∀ v : Int, 0 ≤ v → v ≤ V → Lev (nodesN d) v (lv v)))
set_option maxHeartbeats 1000000 in
theorem topo_Levels {w : World} {d : NetD} {vi vl vo vb vc vm va : Value} (h : NetP w d vi vl vo vb vc vm va) (hl0 : lightN d = true) :
    Calls Tryd.prog 31 #[netV d vi vl vo vb vc vm va] w (LevQ w d) := by
  obtain ⟨ai, ci, ni, al, cl, nl, ao, co, no, ab, cb, nb, ac, cc, nc, am, cm, nm, aa, ca, na, rfl, rfl, rfl, rfl, rfl, rfl, rfl, -, -⟩ := h.open_ (lightN_iff hl0).1
  have ht := topo_told (h.below (below_new1 w (.cells #[.int .i64 d.vars, .slice ai ni ci, .slice al nl cl, .slice ao no co, .slice ab nb cb, .slice ac nc cc, .slice am nm cm, .slice aa na ca] 28))) hl0
  unfold netV at ht ⊢
  have HT := Lib.hid ht
  clear h hl0 ht
  go_enter Tryd.func31, Tryd.ntmps31
  go_wp2_with fail
  refine HT.out.mono ?_
  rintro e w2 hq
  obtain ⟨p, hp⟩ := hq.code
  have HB := Lib.hid ((below_new1 w _).trans (hq.1.mono (by simp)))
  by_cases hc0 : checkN d = 0
  · obtain ⟨-, ⟨h1, rfl⟩ | ⟨h0, V, hs, ⟨hn, rfl⟩ | ⟨bw, bo, bm, bl, nv, m, lv, rfl, hl, hk⟩⟩⟩ := hq
    · rw [checkN_bad h1] at hc0; exact absurd hc0 h1
    · rw [checkN_no h0 hs hn] at hc0; cases hc0
    · have hpw : w.heap.size ≤ bl := by have := hk.pw; simp at this; omega
      have HF : Hid (LevQ w d (.returned (.tuple #[.slice (some ⟨bl, 0, none⟩) (V + 1) (V + 1), .bool true])) w2) := Lib.hid ⟨HB.out, .inr ⟨hc0, V, hs, bl, lv, rfl, hk.lv, hpw, hl⟩⟩
      have c11 := hk.c.2.2.2.1
      clear hs hl hk hc0 hp h0
      go_wp2
      go_ret2
      exact HF.out
  · have HF : Hid (LevQ w d (.returned (.tuple #[.slice none 0 0, .bool false])) w2) := Lib.hid ⟨HB.out, .inl ⟨hc0, rfl⟩⟩
    subst hp
    obtain ⟨c, hc⟩ : ∃ c, c = checkN d := ⟨_, rfl⟩
    rw [← hc] at hc0 ⊢
    have hb : (c != 0) = true := by rw [bne_iff_ne]; exact hc0
    clear hq hc hc0
    go_wp2
    go_ret2
    exact HF.out
set_option maxHeartbeats 2000000 in
theorem r06_Check {w : World} {d : NetD} {vi vl vo vb vc vm va : Value} (h : NetP w d vi vl vo vb vc vm va) (hl0 : lightN d = true) :
    Calls Tryd.prog 7 #[netV d vi vl vo vb vc vm va] w (RetF w (checkN d)) := by
  obtain ⟨ai, ci, ni, al, cl, nl, ao, co, no, ab, cb, nb, ac, cc, nc, am, cm, nm, aa, ca, na, rfl, rfl, rfl, rfl, rfl, rfl, rfl, -, -⟩ := h.open_ (lightN_iff hl0).1
  obtain ⟨wb, hwb⟩ : ∃ wb, wb = w.alloc (.cells #[.int .i64 d.vars, .slice ai ni ci, .slice al nl cl, .slice ao no co, .slice ab nb cb, .slice ac nc cc, .slice am nm cm, .slice aa na ca] 28) := ⟨_, rfl⟩
  obtain ⟨bx, hbx⟩ : ∃ bx, bx = w.heap.size := ⟨_, rfl⟩
  have HB1 : Hid (Below w.heap.size w wb) := Lib.hid (by rw [hwb]; exact below_new1 w _)
  have HBX : Hid (NBox wb bx d (.slice ai ni ci) (.slice al nl cl) (.slice ao no co) (.slice ab nb cb) (.slice ac nc cc) (.slice am nm cm) (.slice aa na ca)) := Lib.hid (by rw [hwb, hbx]; exact NBox.new w _ _ _ _ _ _ _ _)
  have HP := Lib.hid (h.below HB1.out)
  have hso := r05_Sound HP.out hl0
  unfold netV at hso ⊢
  rw [hwb] at hso
  have HSO := Lib.hid hso
  have HW1 := Lib.hid hwb
  have HBE := Lib.hid hbx
  have HL := Lib.hid hl0
  obtain ⟨f, hf⟩ : ∃ f, f = soundN d := ⟨_, rfl⟩
  rw [← hf] at HSO
  have HF0 := Lib.hid hf
  clear h hl0 hwb hbx hso hf
  by_cases hf0 : f = 0
  · have hb0 : (f != 0) = false := by rw [bne_eq_false_iff_eq]; exact hf0
    have HS0 : Hid (soundN d = 0) := Lib.hid (by rw [← HF0.out]; exact hf0)
    clear hf0
    go_enter Tryd.func7, Tryd.ntmps7
    go_wp2_with fail
    refine HSO.out.mono ?_
    rintro e w2 ⟨rfl, hb⟩
    rw [← HW1.out] at hb
    have HB2 := Lib.hid hb
    obtain ⟨c0, c1, c2, c3, c4, c5, c6, c7⟩ := (HBX.out.later hb).all
    rw [HBE.out] at c0 c1 c2 c3 c4 c5 c6 c7
    have hlv := r06_Levels (HP.out.below hb) HL.out
    unfold netV at hlv
    have HLV := Lib.hid hlv
    clear hb hlv HSO
    go_wp2_with fail
    refine HLV.out.mono ?_
    rintro e w3 ⟨hb3, ⟨h1, -⟩ | ⟨h0, V, hs, ⟨hn, rfl⟩ | ⟨bl, o, rfl, -, -, hl⟩⟩⟩
    · exact absurd HS0.out h1
    · have HF : Hid (checkN d = 8) := Lib.hid (checkN_no h0 hs hn)
      have HB3 := Lib.hid (HB1.out.trans ((HB2.out.trans (hb3.mono HB2.out.size)).mono HB1.out.size))
      clear c0 c1 c2 c3 c4 c5 c6 c7 hb3 hs hn h0
      go_wp2
      go_ret
      exact ⟨by rw [HF.out]; rfl, HB3.out⟩
    · have HF : Hid (checkN d = 0) := Lib.hid (checkN_yes h0 hs (fun v a b => ⟨_, (hl v a b).2⟩))
      have HB3 := Lib.hid (HB1.out.trans ((HB2.out.trans (hb3.mono HB2.out.size)).mono HB1.out.size))
      clear c0 c1 c2 c3 c4 c5 c6 c7 hb3 hs hl h0
      go_wp2
      go_ret
      exact ⟨by rw [HF.out]; rfl, HB3.out⟩
  · have hb0 : (f != 0) = true := by rw [bne_iff_ne]; exact hf0
    have HF : Hid (checkN d = f) := Lib.hid (by rw [HF0.out]; exact checkN_bad (by rw [← HF0.out]; exact hf0))
    clear hf0
    go_enter Tryd.func7, Tryd.ntmps7
    go_wp2_with fail
    refine HSO.out.mono ?_
    rintro e w2 ⟨rfl, hb⟩
    have HB2 := Lib.hid ((below_new1 w _).trans (hb.mono (by simp)))
    clear hb
    go_wp2
    go_ret
    exact ⟨by rw [HF.out]; rfl, HB2.out⟩
end Go.Proofs.YtlahecdpcpejpaaDoor
