/-
  Chapter 40: how great a formula may be: both Ports, both Sizes, Hard: walked.
-/
import Derived.Test.YtlahecdpcpejpaaDoorNetS
import Derived.Test.YtlahecdpcpejpaaDoorTopL
import Derived.BigRegion
namespace Go.Proofs.YtlahecdpcpejpaaDoor
open Go Go.ChangeShapes Go.WideShapes Go.ChangeAt Go.RowKit
set_option linter.unusedVariables false
set_option linter.unusedSimpArgs false
attribute [local go_sem ↓] Go.wp_at_zero Go.wp_at_succ
theorem sound_addr {d : NetD} (h : soundN d = 0) : ∀ m ∈ d.mems, 1 ≤ m.addr ∧ m.addr ≤ 62 ∧ 1 ≤ m.word ∧ m.word ≤ 64 := fun m hm => by
  unfold soundN at h
  by_cases h1 : limitsN d = true
  · rw [if_pos h1] at h; cases h
  rw [if_neg h1] at h
  by_cases h2 : d.mems.any wideN = true
  · rw [if_pos h2] at h; cases h
  have : wideN m = false := by
    cases hb : wideN m
    · rfl
    · exact absurd (List.any_eq_true.2 ⟨m, hm, hb⟩) h2
  unfold wideN at this
  rw [Bool.or_eq_false_iff, Bool.or_eq_false_iff] at this
  have := of_decide_eq_false this.1.1
  omega
/-- Ports, addresses, words of the first memories. -/
def prtK (ms : List MemD) : Nat → Nat
  | 0 => 0
  | k + 1 => prtK ms k + ((ms.getD k mem0).rd.length + (ms.getD k mem0).wr.length)
def adrK (ms : List MemD) : Nat → Int
  | 0 => 0
  | k + 1 => max (adrK ms k) (ms.getD k mem0).addr
def wrdK (ms : List MemD) : Nat → Int
  | 0 => 0
  | k + 1 => max (wrdK ms k) (ms.getD k mem0).word
theorem mem_at {ms : List MemD} {k : Nat} (hk : k < ms.length) : ms.getD k mem0 ∈ ms := by rw [List.getD_eq_getElem?_getD, List.getElem?_eq_getElem hk]; exact List.getElem_mem hk
theorem prtK_le {d : NetD} (hl : lightN d = true) : ∀ k, k ≤ d.mems.length → prtK d.mems k ≤ 12 * k
  | 0, _ => by simp [prtK]
  | k + 1, hk => by
    have h1 := prtK_le hl k (by omega)
    have h2 := (liM_parts ((lightN_iff hl).2 k (by omega))).1
    obtain ⟨a, b, -⟩ := of_decide_eq_true h2
    unfold prtK
    omega
theorem adrK_le {d : NetD} (h0 : soundN d = 0) : ∀ k, k ≤ d.mems.length → 0 ≤ adrK d.mems k ∧ adrK d.mems k ≤ 62
  | 0, _ => by simp [adrK]
  | k + 1, hk => by
    have h1 := adrK_le h0 k (by omega)
    have h2 := sound_addr h0 _ (mem_at (k := k) (by omega))
    unfold adrK
    omega
theorem wrdK_le {d : NetD} (h0 : soundN d = 0) : ∀ k, k ≤ d.mems.length → 0 ≤ wrdK d.mems k ∧ wrdK d.mems k ≤ 64
  | 0, _ => by simp [wrdK]
  | k + 1, hk => by
    have h1 := wrdK_le h0 k (by omega)
    have h2 := sound_addr h0 _ (mem_at (k := k) (by omega))
    unfold wrdK
    omega
set_option maxRecDepth 100000 in
theorem ports1 (a b : Int) (c : Bool) (ra wa : Option Addr) (nr rc nw wc : Nat) (h1 : nr ≤ 100) (h2 : nw ≤ 100) (w : World) :
    Calls Tryd.prog 61 #[.agg #[.int .i64 a, .int .i64 b, .bool c, .slice ra nr rc, .slice wa nw wc]] w fun e w' => e = .returned (.int .i64 ((nr + nw : Nat) : Int)) ∧ Below w.heap.size w w' := by
  have HB : Hid (∀ o, Below w.heap.size w (w.alloc o)) := Lib.hid fun o => below_new1 w o
  go_enter Tryd.func61, Tryd.ntmps61
  go_wp2
  go_ret
  exact ⟨rfl, HB.out _⟩
set_option maxHeartbeats 4000000 in
set_option maxRecDepth 100000 in
theorem sum_ports {w : World} {d : NetD} {vi vl vo vb vc vm va : Value} (h : NetP w d vi vl vo vb vc vm va) (hl0 : lightN d = true) :
    Calls Tryd.prog 51 #[netV d vi vl vo vb vc vm va, .func (Fn.func 61) #[] #[]] w fun e w' => e = .returned (.int .i64 (prtK d.mems d.mems.length : Nat)) ∧ Below w.heap.size w w' := by
  obtain ⟨ai, ci, ni, al, cl, nl, ao, co, no, ab, cb, nb, ac, cc, nc, am, cm, nm, aa, ca, na, rfl, rfl, rfl, rfl, rfl, rfl, rfl, HN, HC⟩ := h.open_ (lightN_iff hl0).1
  have hm9 := HC.mems
  obtain ⟨wb, hwb⟩ : ∃ wb, wb = w.alloc (.cells #[.int .i64 d.vars, .slice ai ni ci, .slice al nl cl, .slice ao no co, .slice ab nb cb, .slice ac nc cc, .slice am nm cm, .slice aa na ca] 28) := ⟨_, rfl⟩
  obtain ⟨bx, hbx⟩ : ∃ bx, bx = w.heap.size := ⟨_, rfl⟩
  have HB1 : Hid (Below w.heap.size w wb) := Lib.hid (by rw [hwb]; exact below_new1 w _)
  have hbx1 : NBox wb bx d (.slice ai ni ci) (.slice al nl cl) (.slice ao no co) (.slice ab nb cb) (.slice ac nc cc) (.slice am nm cm) (.slice aa na ca) := by rw [hwb, hbx]; exact NBox.new w _ _ _ _ _ _ _ _
  have HP := Lib.hid (h.below HB1.out)
  have HL := Lib.hid hl0
  unfold netV
  have HWB := Lib.hid hwb
  have HBE := Lib.hid hbx
  have c6 := hbx1.c6
  clear h hl0 hwb hbx hbx1 HC
  go_enter Tryd.func51, Tryd.ntmps51
  go_wp2
  rw [← HWB.out, ← HBE.out]
  go_loopw [4, 10] (fun a i wr => ∃ k : Nat, k ≤ nm ∧ i = .int .i64 (k : Nat) ∧ a = .int .i64 (prtK d.mems k : Nat) ∧ Below wb.heap.size wb wr) (fun _ i _ => nm - (intOf i).toNat)
  case atStart => exact ⟨0, Nat.zero_le _, rfl, rfl, Below.refl _ _⟩
  case round =>
    obtain ⟨k, hk, rfl, rfl, hB⟩ := hrel
    clear c6
    have HB := Lib.hid hB
    by_cases hlt : (k : Int) < (nm : Int)
    · have hkn : k < d.mems.length := by have := HN.out.mems; omega
      obtain ⟨b, off, cap', he, hone⟩ := HP.out.mems.at_ hkn
      injection he with e1 e2 e3
      subst e1
      have hone := stays_mem hone hB
      obtain ⟨q0, q1, q2, ⟨u3, q3, s3⟩, u4, q4, s4⟩ := hone
      obtain ⟨ra, rc, hr3, -, -⟩ := s3.form
      obtain ⟨wa, wc, hw4, -, -⟩ := s4.form
      have hpl := prtK_le HL.out k (by omega)
      obtain ⟨p1, p2, -⟩ := of_decide_eq_true (liM_parts ((lightN_iff HL.out).2 k hkn)).1
      have hnx : prtK d.mems (k + 1) = prtK d.mems k + ((d.mems.getD k mem0).rd.length + (d.mems.getD k mem0).wr.length) := rfl
      generalize (d.mems.getD k mem0).rd.length = n3 at *
      generalize (d.mems.getD k mem0).wr.length = n4 at *
      generalize (d.mems.getD k mem0).addr = ad at *
      generalize (d.mems.getD k mem0).word = wd at *
      generalize (d.mems.getD k mem0).any = an at *
      have HNX := Lib.hid hnx
      generalize prtK d.mems k = pk at *
      subst hr3 hw4
      obtain ⟨wx, hwx⟩ : ∃ wx, wx = wr.alloc (.cells #[.int .i64 ad, .int .i64 wd, .bool an, .slice ra n3 rc, .slice wa n4 wc] 53) := ⟨_, rfl⟩
      have hbx2 : Below wr.heap.size wr wx := by rw [hwx]; exact below_new1 wr _
      have HPT := Lib.hid (ports1 ad wd an ra wa n3 rc n4 wc (by omega) (by omega) wx)
      have HBX2 := Lib.hid (HB.out.trans (hbx2.mono HB.out.size))
      clear e2 e3 hkn s3 s4 hnx hB hbx2
      go_wp2_with fail
      rw [← hwx]
      refine HPT.out.mono ?_
      rintro e w5 ⟨rfl, hb5⟩
      have HB5 := Lib.hid (HBX2.out.trans (hb5.mono HBX2.out.size))
      clear hb5 hwx
      go_wp2
      go_roundw
      case rel => exact ⟨k + 1, by omega, by go_num, by rw [HNX.out]; go_num, HB5.out⟩
      case measure => simp [intOf]; omega
    · have HE : Hid (prtK d.mems k = prtK d.mems d.mems.length) := Lib.hid (by rw [show k = d.mems.length by have := HN.out.mems; omega])
      have HF := Lib.hid (HB1.out.trans (HB.out.mono HB1.out.size))
      clear hB
      go_wp2
      go_ret
      exact ⟨by rw [HE.out]; rfl, HF.out⟩
theorem net_Ports {w : World} {d : NetD} {vi vl vo vb vc vm va : Value} (h : NetP w d vi vl vo vb vc vm va) (hl0 : lightN d = true) :
    Calls Tryd.prog 48 #[netV d vi vl vo vb vc vm va] w fun e w' => e = .returned (.int .i64 (prtK d.mems d.mems.length : Nat)) ∧ Below w.heap.size w w' := by
  obtain ⟨ai, ci, ni, al, cl, nl, ao, co, no, ab, cb, nb, ac, cc, nc, am, cm, nm, aa, ca, na, rfl, rfl, rfl, rfl, rfl, rfl, rfl, -, -⟩ := h.open_ (lightN_iff hl0).1
  have hs := sum_ports (h.below (below_new1 w (.cells #[.int .i64 d.vars, .slice ai ni ci, .slice al nl cl, .slice ao no co, .slice ab nb cb, .slice ac nc cc, .slice am nm cm, .slice aa na ca] 28))) hl0
  unfold netV at hs ⊢
  have HS := Lib.hid hs
  generalize prtK d.mems d.mems.length = p at *
  clear h hl0 hs
  go_enter Tryd.func48, Tryd.ntmps48
  go_wp2_with fail
  refine HS.out.mono ?_
  rintro e w2 ⟨rfl, hb⟩
  have HB := Lib.hid ((below_new1 w _).trans (hb.mono (by simp)))
  clear hb
  go_wp2
  go_ret
  exact ⟨rfl, HB.out⟩
set_option maxHeartbeats 4000000 in
set_option maxRecDepth 100000 in
theorem r05_Ports {w : World} {d : NetD} {vi vl vo vb vc vm va : Value} (h : NetP w d vi vl vo vb vc vm va) (hl0 : lightN d = true) :
    Calls Tryd.prog 21 #[netV d vi vl vo vb vc vm va] w fun e w' => e = .returned (.int .i64 (prtK d.mems d.mems.length : Nat)) ∧ Below w.heap.size w w' := by
  obtain ⟨ai, ci, ni, al, cl, nl, ao, co, no, ab, cb, nb, ac, cc, nc, am, cm, nm, aa, ca, na, rfl, rfl, rfl, rfl, rfl, rfl, rfl, HN, HC⟩ := h.open_ (lightN_iff hl0).1
  have hm9 := HC.mems
  obtain ⟨wb, hwb⟩ : ∃ wb, wb = w.alloc (.cells #[.int .i64 d.vars, .slice ai ni ci, .slice al nl cl, .slice ao no co, .slice ab nb cb, .slice ac nc cc, .slice am nm cm, .slice aa na ca] 28) := ⟨_, rfl⟩
  obtain ⟨bx, hbx⟩ : ∃ bx, bx = w.heap.size := ⟨_, rfl⟩
  have HB1 : Hid (Below w.heap.size w wb) := Lib.hid (by rw [hwb]; exact below_new1 w _)
  have HBX : Hid (NBox wb bx d (.slice ai ni ci) (.slice al nl cl) (.slice ao no co) (.slice ab nb cb) (.slice ac nc cc) (.slice am nm cm) (.slice aa na ca)) := Lib.hid (by rw [hwb, hbx]; exact NBox.new w _ _ _ _ _ _ _ _)
  have HP := Lib.hid (h.below HB1.out)
  have HL := Lib.hid hl0
  unfold netV
  have HWB := Lib.hid hwb
  have HBE := Lib.hid hbx
  clear h hl0 hwb hbx HC
  go_enter Tryd.func21, Tryd.ntmps21
  go_wp2
  rw [← HWB.out, ← HBE.out]
  go_loopw [3, 4] (fun a i wr => ∃ k : Nat, k ≤ nm ∧ i = .int .i64 (k : Nat) ∧ a = .int .i64 (prtK d.mems k : Nat) ∧ Below wb.heap.size wb wr) (fun _ i _ => nm - (intOf i).toNat)
  case atStart => exact ⟨0, Nat.zero_le _, rfl, rfl, Below.refl _ _⟩
  case round =>
    obtain ⟨k, hk, rfl, rfl, hB⟩ := hrel
    have c6 := (HBX.out.later hB).c6
    have HB := Lib.hid hB
    by_cases hlt : (k : Int) < (nm : Int)
    · have hkn : k < d.mems.length := by have := HN.out.mems; omega
      obtain ⟨b, off, cap', he, hone⟩ := HP.out.mems.at_ hkn
      injection he with e1 e2 e3
      subst e1
      have hone := stays_mem hone hB
      obtain ⟨-, -, -, ⟨u3, q3, s3⟩, u4, q4, s4⟩ := hone
      obtain ⟨ra, rc, hr3, -, -⟩ := s3.form
      obtain ⟨wa, wc, hw4, -, -⟩ := s4.form
      have hpl := prtK_le HL.out k (by omega)
      obtain ⟨p1, p2, -⟩ := of_decide_eq_true (liM_parts ((lightN_iff HL.out).2 k hkn)).1
      have hnx : prtK d.mems (k + 1) = prtK d.mems k + ((d.mems.getD k mem0).rd.length + (d.mems.getD k mem0).wr.length) := rfl
      generalize (d.mems.getD k mem0).rd.length = n3 at *
      generalize (d.mems.getD k mem0).wr.length = n4 at *
      have HNX := Lib.hid hnx
      generalize prtK d.mems k = pk at *
      subst hr3 hw4
      have HD : Hid (∀ n, Below wb.heap.size wb (wr.drewN n)) := Lib.hid fun n => below_drewN hB n
      clear e2 e3 hkn s3 s4 hnx hB
      go_wp2
      go_quiet (fail)
      go_wp2
      go_roundw
      case rel => exact ⟨k + 1, by omega, by go_num, by rw [HNX.out]; go_num, HD.out _⟩
      case measure => simp [intOf]; omega
    · have HE : Hid (prtK d.mems k = prtK d.mems d.mems.length) := Lib.hid (by rw [show k = d.mems.length by have := HN.out.mems; omega])
      have HF := Lib.hid (HB1.out.trans (HB.out.mono HB1.out.size))
      clear hB
      go_wp2
      go_ret
      exact ⟨by rw [HE.out]; rfl, HF.out⟩
/-- How many clauses a formula may have. -/
def hardW (q p a dd l no nb nc n : Int) : Int :=
  wrap64 (wrap64 (wrap64 (wrap64 (4 + wrap64 (3 * q * n)) + wrap64 (q * (no + nb + nc + 8))) + wrap64 (wrap64 (q * q) * wrap64 (wrap64 (wrap64 (wrap64 (wrap64 (p * p) * (5 * a + 2 * dd + 12)) + 4 * l) + p) + 4))) + wrap64 (wrap64 (q * p) * dd))
def hardN (d : NetD) (q : Nat) : Int := hardW q (prtK d.mems d.mems.length) (adrK d.mems d.mems.length) (wrdK d.mems d.mems.length) d.lat.length d.out.length d.bad.length d.con.length d.ands.length
def SizQ (w : World) (d : NetD) (q : Nat) (e : Ending) (w' : World) : Prop := ∃ v : Int, e = .returned (.tuple #[.int .i64 v, .int .i64 (hardN d q)]) ∧ Below w.heap.size w w'
set_option maxHeartbeats 8000000 in
set_option maxRecDepth 100000 in
theorem r36_Size {w : World} {d : NetD} {vi vl vo vb vc vm va : Value} (h : NetP w d vi vl vo vb vc vm va) (hl0 : lightN d = true) (h0 : soundN d = 0) {V : Nat} (hV : d.vars = (V : Int)) (hV2 : V ≤ 2000) {q : Nat} (hq : q ≤ 100) :
    Calls Tryd.prog 8 #[netV d vi vl vo vb vc vm va, .int .i64 (q : Nat)] w (SizQ w d q) := by
  obtain ⟨ai, ci, ni, al, cl, nl, ao, co, no, ab, cb, nb, ac, cc, nc, am, cm, nm, aa, ca, na, rfl, rfl, rfl, rfl, rfl, rfl, rfl, HN, HC⟩ := h.open_ (lightN_iff hl0).1
  obtain ⟨⟨i1, i2, i3⟩, ⟨l1, l2, l3⟩, ⟨o1, o2, o3⟩, ⟨b1, b2, b3⟩, ⟨c1, c2, c3⟩, ⟨m1, m2, m3⟩, ⟨a1, a2, a3⟩⟩ := HC
  obtain ⟨wb, hwb⟩ : ∃ wb, wb = w.alloc (.cells #[.int .i64 d.vars, .slice ai ni ci, .slice al nl cl, .slice ao no co, .slice ab nb cb, .slice ac nc cc, .slice am nm cm, .slice aa na ca] 28) := ⟨_, rfl⟩
  obtain ⟨bx, hbx⟩ : ∃ bx, bx = w.heap.size := ⟨_, rfl⟩
  have HB1 : Hid (Below w.heap.size w wb) := Lib.hid (by rw [hwb]; exact below_new1 w _)
  have HBX : Hid (NBox wb bx d (.slice ai ni ci) (.slice al nl cl) (.slice ao no co) (.slice ab nb cb) (.slice ac nc cc) (.slice am nm cm) (.slice aa na ca)) := Lib.hid (by rw [hwb, hbx]; exact NBox.new w _ _ _ _ _ _ _ _)
  have HP := Lib.hid (h.below HB1.out)
  have hpt := r05_Ports HP.out hl0
  unfold netV at hpt ⊢
  rw [hwb] at hpt
  obtain ⟨p, hp⟩ : ∃ p, p = prtK d.mems d.mems.length := ⟨_, rfl⟩
  rw [← hp] at hpt
  have hp2 : p ≤ 72 := by
    have := prtK_le hl0 d.mems.length (Nat.le_refl _)
    have h9 := HN.out.mems
    omega
  have HPE := Lib.hid hp
  have HPT := Lib.hid hpt
  have HS0 := Lib.hid h0
  have HWB := Lib.hid hwb
  have HBE := Lib.hid hbx
  have HVV := Lib.hid hV
  clear h hl0 h0 hwb hbx hpt hp hV
  go_enter Tryd.func8, Tryd.ntmps8
  go_wp2_with fail
  refine HPT.out.mono ?_
  rintro e w2 ⟨rfl, hb2⟩
  rw [← HWB.out] at hb2
  rw [← HBE.out]
  have HX2 := Lib.hid (HBX.out.later hb2)
  have HP2 := Lib.hid (HP.out.below hb2)
  have HB2 := Lib.hid (HB1.out.trans (hb2.mono HB1.out.size))
  have c6 := HX2.out.c6
  clear hb2
  go_wp2
  go_loopw [7, 8, 9] (fun av dv i wr => ∃ k : Nat, k ≤ nm ∧ i = .int .i64 (k : Nat) ∧ av = .int .i64 (adrK d.mems k) ∧ dv = .int .i64 (wrdK d.mems k) ∧ wr = w2) (fun _ _ i _ => nm - (intOf i).toNat)
  case atStart => exact ⟨0, Nat.zero_le _, rfl, rfl, rfl, rfl⟩
  case round =>
    obtain ⟨k, hk, rfl, rfl, rfl, rfl⟩ := hrel
    by_cases hlt : (k : Int) < (nm : Int)
    · have hkn : k < d.mems.length := by have := HN.out.mems; omega
      obtain ⟨b, off, cap', he, hone⟩ := HP2.out.mems.at_ hkn
      injection he with e1 e2 e3
      subst e1
      obtain ⟨q0, q1, -⟩ := hone
      have ha : adrK d.mems (k + 1) = max (adrK d.mems k) (d.mems.getD k mem0).addr := rfl
      have hw : wrdK d.mems (k + 1) = max (wrdK d.mems k) (d.mems.getD k mem0).word := rfl
      generalize (d.mems.getD k mem0).addr = ad at *
      generalize (d.mems.getD k mem0).word = wd at *
      generalize adrK d.mems k = x at *
      generalize wrdK d.mems k = y at *
      have HA := Lib.hid ha
      have HW := Lib.hid hw
      clear e2 e3 hkn ha hw
      have m1 : ∀ u v : Int, (if u < v then v else u) = max u v := fun u v => by omega
      go_wp2
      go_roundw
      case rel => exact ⟨k + 1, by omega, by go_num, by rw [HA.out], by rw [HW.out], trivial⟩
      case measure => simp [intOf]; omega
    · obtain ⟨a, hae⟩ : ∃ a : Nat, adrK d.mems k = (a : Int) := ⟨(adrK d.mems k).toNat, by have := (adrK_le HS0.out k (by have := HN.out.mems; omega)).1; omega⟩
      obtain ⟨dd, hde⟩ : ∃ dd : Nat, wrdK d.mems k = (dd : Int) := ⟨(wrdK d.mems k).toNat, by have := (wrdK_le HS0.out k (by have := HN.out.mems; omega)).1; omega⟩
      have ha2 : a ≤ 62 := by have := (adrK_le HS0.out k (by have := HN.out.mems; omega)).2; omega
      have hd2 : dd ≤ 64 := by have := (wrdK_le HS0.out k (by have := HN.out.mems; omega)).2; omega
      rw [hae, hde]
      have HAE := Lib.hid hae
      have HDE := Lib.hid hde
      clear c6
      obtain ⟨c0, x1, c2x, c3x, c4, c5, c6, c7⟩ := HX2.out.all
      rw [HVV.out] at c0
      clear hae hde
      have HFIN : Hid (∀ W v, Below w.heap.size w W → SizQ w d q (.returned (.tuple #[.int .i64 v, .int .i64 (hardW (q : Nat) (p : Nat) (a : Nat) (dd : Nat) (nl : Nat) (no : Nat) (nb : Nat) (nc : Nat) (na : Nat))])) W) := Lib.hid fun W v hW => by
        have hkn : k = d.mems.length := by have := HN.out.mems; omega
        refine ⟨v, ?_, hW⟩
        unfold hardN
        rw [← hkn, HAE.out, HDE.out, ← HN.out.lat, ← HN.out.out, ← HN.out.bad, ← HN.out.con, ← HN.out.ands, hkn, ← HPE.out]
      have HDR : Hid (∀ n, Below w.heap.size w (wr.drewN n)) := Lib.hid fun n => below_drewN HB2.out n
      go_wp2
      go_quiet (fail)
      go_wp2
      go_ret2
      exact HFIN.out _ _ (HDR.out _)
set_option maxHeartbeats 8000000 in
set_option maxRecDepth 100000 in
theorem prove_Size {w : World} {d : NetD} {vi vl vo vb vc vm va : Value} (h : NetP w d vi vl vo vb vc vm va) (hl0 : lightN d = true) (h0 : soundN d = 0) {V : Nat} (hV : d.vars = (V : Int)) (hV2 : V ≤ 2000) {q : Nat} (hq : q ≤ 100) :
    Calls Tryd.prog 28 #[netV d vi vl vo vb vc vm va, .int .i64 (q : Nat)] w (SizQ w d q) := by
  obtain ⟨ai, ci, ni, al, cl, nl, ao, co, no, ab, cb, nb, ac, cc, nc, am, cm, nm, aa, ca, na, rfl, rfl, rfl, rfl, rfl, rfl, rfl, HN, HC⟩ := h.open_ (lightN_iff hl0).1
  obtain ⟨⟨i1, i2, i3⟩, ⟨l1, l2, l3⟩, ⟨o1, o2, o3⟩, ⟨b1, b2, b3⟩, ⟨c1, c2, c3⟩, ⟨m1, m2, m3⟩, ⟨a1, a2, a3⟩⟩ := HC
  obtain ⟨wb, hwb⟩ : ∃ wb, wb = w.alloc (.cells #[.int .i64 d.vars, .slice ai ni ci, .slice al nl cl, .slice ao no co, .slice ab nb cb, .slice ac nc cc, .slice am nm cm, .slice aa na ca] 28) := ⟨_, rfl⟩
  obtain ⟨bx, hbx⟩ : ∃ bx, bx = w.heap.size := ⟨_, rfl⟩
  have HB1 : Hid (Below w.heap.size w wb) := Lib.hid (by rw [hwb]; exact below_new1 w _)
  have HBX : Hid (NBox wb bx d (.slice ai ni ci) (.slice al nl cl) (.slice ao no co) (.slice ab nb cb) (.slice ac nc cc) (.slice am nm cm) (.slice aa na ca)) := Lib.hid (by rw [hwb, hbx]; exact NBox.new w _ _ _ _ _ _ _ _)
  have HP := Lib.hid (h.below HB1.out)
  have hpt := net_Ports HP.out hl0
  unfold netV at hpt ⊢
  rw [hwb] at hpt
  obtain ⟨p, hp⟩ : ∃ p, p = prtK d.mems d.mems.length := ⟨_, rfl⟩
  rw [← hp] at hpt
  have hp2 : p ≤ 72 := by
    have := prtK_le hl0 d.mems.length (Nat.le_refl _)
    have h9 := HN.out.mems
    omega
  have HPE := Lib.hid hp
  have HPT := Lib.hid hpt
  have HS0 := Lib.hid h0
  have HWB := Lib.hid hwb
  have HBE := Lib.hid hbx
  have HVV := Lib.hid hV
  clear h hl0 h0 hwb hbx hpt hp hV
  go_enter Tryd.func28, Tryd.ntmps28
  go_wp2_with fail
  refine HPT.out.mono ?_
  rintro e w2 ⟨rfl, hb2⟩
  rw [← HWB.out] at hb2
  rw [← HBE.out]
  have HX2 := Lib.hid (HBX.out.later hb2)
  have HP2 := Lib.hid (HP.out.below hb2)
  have HB2 := Lib.hid (HB1.out.trans (hb2.mono HB1.out.size))
  have c6 := HX2.out.c6
  clear hb2
  go_wp2
  go_loopw [8, 9, 20] (fun av dv i wr => ∃ k : Nat, k ≤ nm ∧ i = .int .i64 (k : Nat) ∧ av = .int .i64 (adrK d.mems k) ∧ dv = .int .i64 (wrdK d.mems k) ∧ Below w2.heap.size w2 wr) (fun _ _ i _ => nm - (intOf i).toNat)
  case atStart => exact ⟨0, Nat.zero_le _, rfl, rfl, rfl, Below.refl _ _⟩
  case round =>
    obtain ⟨k, hk, rfl, rfl, rfl, hB⟩ := hrel
    clear c6
    have HB := Lib.hid hB
    by_cases hlt : (k : Int) < (nm : Int)
    · have hkn : k < d.mems.length := by have := HN.out.mems; omega
      obtain ⟨b, off, cap', he, hone⟩ := HP2.out.mems.at_ hkn
      injection he with e1 e2 e3
      subst e1
      have hone := stays_mem hone hB
      obtain ⟨q0, q1, q2, ⟨u3, q3, s3⟩, u4, q4, s4⟩ := hone
      obtain ⟨ra, rc, hr3, -, -⟩ := s3.form
      obtain ⟨wa, wc, hw4, -, -⟩ := s4.form
      have ha : adrK d.mems (k + 1) = max (adrK d.mems k) (d.mems.getD k mem0).addr := rfl
      have hw : wrdK d.mems (k + 1) = max (wrdK d.mems k) (d.mems.getD k mem0).word := rfl
      generalize (d.mems.getD k mem0).rd.length = n3 at *
      generalize (d.mems.getD k mem0).wr.length = n4 at *
      generalize (d.mems.getD k mem0).any = an at *
      generalize (d.mems.getD k mem0).addr = ad at *
      generalize (d.mems.getD k mem0).word = wd at *
      generalize adrK d.mems k = x at *
      generalize wrdK d.mems k = y at *
      have HA := Lib.hid ha
      have HW := Lib.hid hw
      subst hr3 hw4
      obtain ⟨wx, hwx⟩ : ∃ wx, wx = wr.alloc (.cells #[.int .i64 ad, .int .i64 wd, .bool an, .slice ra n3 rc, .slice wa n4 wc] 53) := ⟨_, rfl⟩
      obtain ⟨bm, hbm⟩ : ∃ bm, bm = wr.heap.size := ⟨_, rfl⟩
      have hbk : Blk wx bm 53 #[.int .i64 ad, .int .i64 wd, .bool an, .slice ra n3 rc, .slice wa n4 wc] := by rw [hwx, hbm]; exact Blk.new _ _ _
      have m0 : wx.cell? ⟨bm, 0, none⟩ = some (.int .i64 ad) := hbk.cell 0
      have m1 : wx.cell? ⟨bm, 1, none⟩ = some (.int .i64 wd) := hbk.cell 1
      have hbx2 : Below wr.heap.size wr wx := by rw [hwx]; exact below_new1 wr _
      have HBX2 : Hid (∀ n, Below w2.heap.size w2 (wx.drewN n)) := Lib.hid fun n => below_drewN (HB.out.trans (hbx2.mono HB.out.size)) n
      have HBX3 : Hid (Below w2.heap.size w2 wx ∧ Below w2.heap.size w2 wx.drew) := Lib.hid ⟨HB.out.trans (hbx2.mono HB.out.size), (HB.out.trans (hbx2.mono HB.out.size)).drew⟩
      clear e2 e3 hkn ha hw s3 s4 hB hbk hbx2
      go_wp2_with fail
      rw [← hbm, ← hwx]
      clear hbm hwx
      go_region
      go_wp2
      go_roundw
      case rel => exact ⟨k + 1, by omega, by go_num, by rw [HA.out], by rw [HW.out], by first | exact HBX3.out.2 | exact HBX3.out.1 | exact HBX2.out _⟩
      case measure => simp [intOf]; omega
    · obtain ⟨a, hae⟩ : ∃ a : Nat, adrK d.mems k = (a : Int) := ⟨(adrK d.mems k).toNat, by have := (adrK_le HS0.out k (by have := HN.out.mems; omega)).1; omega⟩
      obtain ⟨dd, hde⟩ : ∃ dd : Nat, wrdK d.mems k = (dd : Int) := ⟨(wrdK d.mems k).toNat, by have := (wrdK_le HS0.out k (by have := HN.out.mems; omega)).1; omega⟩
      have ha2 : a ≤ 62 := by have := (adrK_le HS0.out k (by have := HN.out.mems; omega)).2; omega
      have hd2 : dd ≤ 64 := by have := (wrdK_le HS0.out k (by have := HN.out.mems; omega)).2; omega
      rw [hae, hde]
      have HAE := Lib.hid hae
      have HDE := Lib.hid hde
      have hxx := HX2.out.later hB
      obtain ⟨c0, x1, c2x, c3x, c4, c5, c6, c7⟩ := hxx.all
      rw [HVV.out] at c0
      clear hae hde hxx hB
      have HFIN : Hid (∀ W v, Below w.heap.size w W → SizQ w d q (.returned (.tuple #[.int .i64 v, .int .i64 (hardW (q : Nat) (p : Nat) (a : Nat) (dd : Nat) (nl : Nat) (no : Nat) (nb : Nat) (nc : Nat) (na : Nat))])) W) := Lib.hid fun W v hW => by
        have hkn : k = d.mems.length := by have := HN.out.mems; omega
        refine ⟨v, ?_, hW⟩
        unfold hardN
        rw [← hkn, HAE.out, HDE.out, ← HN.out.lat, ← HN.out.out, ← HN.out.bad, ← HN.out.con, ← HN.out.ands, hkn, ← HPE.out]
      have HDR : Hid (∀ n, Below w.heap.size w (wr.drewN n)) := Lib.hid fun n => below_drewN (HB2.out.trans (HB.out.mono HB2.out.size)) n
      go_wp2
      go_quiet (fail)
      go_wp2
      go_ret2
      exact HFIN.out _ _ (HDR.out _)
end Go.Proofs.YtlahecdpcpejpaaDoor
