/-
  The laws of chapter 22: added.
-/
import Derived.Test.YtkaklgjdmlddmaaWaW
import Derived.Deep.LoopGhost
namespace Go.Proofs.Ytkaklgjdmlddmaa
open Go.ChangeShapes Go.WideShapes Go.ChangeAt Go.RowKit
set_option linter.unusedVariables false
set_option linter.unusedSimpArgs false
attribute [local go_sem ↓] Go.wp_at_zero Go.wp_at_succ
def fines (xss : List (List Int)) : List (List Int) := xss.filter fun c => fin22 c 9
theorem fines_len (xss : List (List Int)) : (fines xss).length ≤ xss.length := List.length_filter_le _ _
theorem light_at {xss : List (List Int)} (h : lightB xss = true) {c : List Int} (hc : c ∈ xss) : c.length ≤ 30 ∧ ClauseL c := by
  unfold lightB at h
  rw [Bool.and_eq_true, List.all_eq_true] at h
  have := h.2 c hc
  rw [Bool.and_eq_true] at this
  exact ⟨of_decide_eq_true this.1, of_decide_eq_true this.2⟩
theorem light_n {xss : List (List Int)} (h : lightB xss = true) : xss.length ≤ 80 := by
  unfold lightB at h
  rw [Bool.and_eq_true] at h
  exact of_decide_eq_true h.1
/-- A watch in a law: what lay there when the law began lies below B. -/
structure LW (B : Nat) (w0 w : World) (r : Nat → Nat) (wb t : Nat) (S : WS) : Prop where
  at_ : WAt B w r wb t S
  old : Below B w0 w
  hB : B ≤ w.heap.size
theorem WAt.hi {B : Nat} {w : World} {r : Nat → Nat} {wb t : Nat} {S : WS} (h : WAt B w r wb t S) : ∀ b, w.heap.size ≤ b → r b = 0 := by obtain ⟨_, _, _, _, _, h⟩ := h; exact h.hi
theorem WAt.lo {B : Nat} {w : World} {r : Nat → Nat} {wb t : Nat} {S : WS} (h : WAt B w r wb t S) : ∀ b, b < B → r b = 0 := by obtain ⟨_, _, _, _, _, h⟩ := h; exact h.lo
theorem LW.below {B : Nat} {w0 w w' : World} {r : Nat → Nat} {wb t : Nat} {S : WS} (h : LW B w0 w r wb t S) (hb : Below w.heap.size w w') : LW B w0 w' r wb t S :=
  ⟨h.at_.below hb, h.old.trans (hb.mono h.hB), Nat.le_trans h.hB hb.size⟩
theorem LW.post {B : Nat} {w0 w w' : World} {r : Nat → Nat} {wb t : Nat} {S S' : WS} (h : LW B w0 w r wb t S) (hp : WPost B w r wb t S' w') : ∃ r', LW B w0 w' r' wb t S' ∧ Chg (fun b => B ≤ b ∧ r b ≠ 0) w w' ∧ ∀ b, b < w.heap.size → r' b = r b := by
  obtain ⟨r', h1, h2, h3⟩ := hp
  have hc : Chg (fun b => B ≤ b ∧ r b ≠ 0) w w' := h2.mono fun b hb => ⟨Nat.le_of_not_lt fun hlt => hb (h.at_.lo b hlt), hb⟩
  exact ⟨r', ⟨h1, h.old.trans (hc.below h.hB fun b hb => hb.1), Nat.le_trans h.hB hc.size⟩, hc, h3⟩
/-- A step of the law's own, that turns none of the watch's blocks. -/
theorem LW.own {B : Nat} {w0 w w' : World} {r : Nat → Nat} {wb t : Nat} {S : WS} (h : LW B w0 w r wb t S) (hc : Chg (fun b => B ≤ b ∧ r b = 0) w w') : LW B w0 w' r wb t S :=
  ⟨h.at_.chg hc (fun b hb e => hb e.2), h.old.trans (hc.below h.hB fun b hb => hb.1), Nat.le_trans h.hB hc.size⟩
theorem fines_snoc {xss : List (List Int)} {k : Nat} (hk : k < xss.length) : fines (xss.take (k + 1)) = if fin22 (xss.getD k []) 9 then fines (xss.take k) ++ [xss.getD k []] else fines (xss.take k) := by
  unfold fines
  rw [List.take_succ_eq_append_getElem hk, List.filter_append]
  have e : xss.getD k [] = xss[k] := by simp [List.getD, hk]
  rw [e]
  by_cases h : fin22 xss[k] 9 = true
  · rw [if_pos h]; simp [h]
  · rw [if_neg h]; simp [h]
def AddedQ (B : Nat) (w0 : World) (wb t : Nat) (og : List (List Int)) (e : Ending) (w' : World) : Prop :=
  ∃ r S v, e = .returned (.tuple #[v, .bool true]) ∧ AInv og 0 S ∧ LW B w0 w' r wb t S ∧ LS B w' r v og
set_option maxHeartbeats 4000000 in
set_option maxRecDepth 100000 in
theorem added_ {w0 w : World} {v : Value} {xss : List (List Int)} {r : Nat → Nat} {wb t : Nat} (h : IntsS w0 v xss) (hl : lightB xss = true) (hW : LW w0.heap.size w0 w r wb t (wNew (TS.new 9))) :
    Calls Try.prog 11 #[.pointer (some ⟨wb, 0, none⟩), v, .int .i64 9] w (AddedQ w0.heap.size w0 wb t (fines xss)) := by
  obtain ⟨a, cap, rfl, hc1, hc2⟩ := h.form
  obtain ⟨n, hn⟩ : ∃ n, n = xss.length := ⟨_, rfl⟩
  rw [← hn] at hc1 ⊢
  have hn80 : n ≤ 80 := by rw [hn]; exact light_n hl
  have HN := Lib.hid hn
  have HS := Lib.hid h
  have HL := Lib.hid hl
  have HW := Lib.hid hW
  clear h hn hc1 hc2 hl hW
  go_enter Try.func11, Try.ntmps11
  go_wp2
  go_loopw [8, 9] (fun lv i wr => ∃ k : Nat, k ≤ n ∧ i = .int .i64 k ∧ ∃ r S, AInv (fines (xss.take k)) 0 S ∧ LW w0.heap.size w0 wr r wb t S ∧ LS w0.heap.size wr r lv (fines (xss.take k))) (fun _ i _ => n - (intOf i).toNat)
  case atStart => exact ⟨0, Nat.zero_le _, rfl, r, _, AInv.new, HW.out, LS.nil _ _ _⟩
  case round =>
    obtain ⟨k, hk, rfl, r1, S, hA, hW, us, hL⟩ := hrel
    by_cases hlt : (k : Int) < (n : Int)
    · have hkn : k < xss.length := by have := HN.out; omega
      obtain ⟨b, off, cap', u, he, hcell, hint⟩ := HS.out.at_ hkn
      injection he with e1 e2 e3
      subst e1
      have hbl := World.block_lt_of_cell? w0 _ hcell
      have hq := (hW.old.cell (p := ⟨b, off + k, none⟩) hbl).trans hcell
      have hsn := fines_snoc hkn
      obtain ⟨c, hc⟩ : ∃ c, c = xss.getD k [] := ⟨_, rfl⟩
      rw [← hc] at hint hsn
      have hcm : c ∈ xss := by rw [hc]; simp [List.getD, hkn]
      obtain ⟨l30, lcl⟩ := light_at HL.out hcm
      have hint2 := hint.below hW.old
      have hfi := r22_Fine hint2 lcl l30 9 (by omega) (by omega)
      have hlu := ints_lt hint
      obtain ⟨og, hog⟩ : ∃ og, og = fines (xss.take k) := ⟨_, rfl⟩
      rw [← hog] at hA hL hsn
      have hogn : og.length ≤ k := by rw [hog]; have := fines_len (xss.take k); rw [List.length_take] at this; omega
      obtain ⟨m, hm⟩ : ∃ m, m = og.length := ⟨_, rfl⟩
      obtain ⟨ua, uc, rfl⟩ := ints_form hint
      obtain ⟨cn, hcn⟩ : ∃ cn, cn = c.length := ⟨_, rfl⟩
      rw [← hcn] at hq hfi hint2 hint hlu
      obtain ⟨la, lc, hlv⟩ : ∃ la lc, u8 = .slice la og.length lc := by
        rcases hL.1.form with ⟨rfl, e0, -⟩ | ⟨g, cap, rfl, -⟩
        · exact ⟨_, _, by rw [e0]⟩
        · exact ⟨_, _, rfl⟩
      rw [← hm] at hlv
      subst hlv
      have HHL := Lib.hid hL
      have HHA := Lib.hid hA
      have HHW := Lib.hid hW
      have HC := Lib.hid hc
      have HSN := Lib.hid hsn
      have HOG := Lib.hid hog
      have HM := Lib.hid hm
      have HI := Lib.hid hint2
      have HLU := Lib.hid hlu
      have HCN := Lib.hid hcn
      clear hL hA hW hc hsn hog hm hint2 hint hlu hcn hcell e2 e3 hkn hcm lcl
      cases hf : fin22 c 9 with
      | false =>
        rw [hf] at hfi
        have HFI := Lib.hid hfi
        have HF := Lib.hid hf
        clear hfi hf
        go_wp2_with fail
        refine HFI.out.mono ?_
        rintro e w1 ⟨rfl, hb1⟩
        have HB1 := Lib.hid hb1
        clear hb1 hq
        go_wp2_with fail
        try rw [Exit.noGoto_exit]
        go_wp2_with fail
        go_roundw
        case rel =>
          refine ⟨k + 1, by omega, by go_num, r1, S, ?_⟩
          have e : fines (xss.take (k + 1)) = og := by have := HSN.out; rw [HF.out] at this; simpa using this
          rw [e]
          exact ⟨HHA.out, HHW.out.below HB1.out, LS.below ⟨us, HHL.out⟩ HB1.out⟩
        case measure => simp [intOf]; omega
      | true =>
        rw [hf] at hfi
        have h9 := c9_of_fin hf l30
        have HFI := Lib.hid hfi
        have HF := Lib.hid hf
        have H9 := Lib.hid h9
        clear hfi hf h9
        go_wp2_with fail
        refine HFI.out.mono ?_
        rintro e w1 ⟨rfl, hb1⟩
        have hq1 := (hb1.cell (p := ⟨b, off + k, none⟩) (World.block_lt_of_cell? _ _ hq)).trans hq
        have hW1 := HHW.out.below hb1
        have hr1 := HHA.out.inv.1.run
        have hadd := Add_ hW1.at_ hW1.hB hr1.sg hr1.tb (HI.out.below hb1) (fun x hx => (H9.out.li x hx).l3) (List.length_pos_iff.2 H9.out.ne) (by omega) hr1.lb (by rw [HHA.out.inv.1.cn]; omega)
        rw [HHA.out.inv.1.cn, ← HM.out] at hadd
        have HAD := Lib.hid hadd
        have HW1 := Lib.hid hW1
        have HL1 := Lib.hid (LS.below ⟨us, HHL.out⟩ hb1)
        have HI1 := Lib.hid (HI.out.below hb1)
        clear hadd hW1 hb1 hr1 hq
        go_wp2_with fail
        refine HAD.out.mono ?_
        rintro e w2 ⟨rfl, hp⟩
        obtain ⟨r2, hW2, hc2, hr2⟩ := HW1.out.post hp
        have hq2 := (hc2.below HW1.out.hB (fun b hb => hb.1)).cell (p := ⟨b, off + k, none⟩) hbl
        replace hq2 := hq2.trans hq1
        have hA2 := HHA.out.add H9.out (by omega)
        obtain ⟨us2, o1, o2, o3, o4⟩ := HL1.out.chg hc2 (fun b hb => hb) hr2
        have hI2 : Ints w2 (.slice ua cn uc) c := HI1.out.chg hc2 (fun g hg e => by
          have := HLU.out H9.out.ne g hg
          have := e.1; omega)
        have HA2 := Lib.hid hA2
        have HW2 := Lib.hid hW2
        have HI2 := Lib.hid hI2
        have O1 : Hid (Row (w2.alloc (.cells #[.slice ua cn uc] 23)) 23 1 (.slice la m lc) m us2) := Lib.hid (by have := o1.alloc (.cells #[.slice ua cn uc] 23); rwa [← HM.out] at this)
        have O0 : Hid (Row w2 23 1 (.slice la m lc) og.length us2) := Lib.hid o1
        have O2 := Lib.hid o2
        have O3 := Lib.hid o3
        have O4 := Lib.hid o4
        clear hp hW2 hc2 hr2 hq1 hA2 o1 o2 o3 o4 hI2 hbl
        have d0 : ((m : Int) != (m : Int)) = false := by simp
        go_wp2_with (at_builtin; refine wpList_app rfl _ _ _ rfl 23 (.slice none 0 0) 1 24 Try.underlying22 infoL rfl (by decide) (.slice la m lc) m us2 rfl ?ho w2.heap.size 0 1 1 [.slice ua cn uc] rfl rfl ?hn ?hs ?c1 ?c2 ?_)
        case ho => exact O1.out
        case hn => exact cellNew _ _ _ _ rfl
        case hs => exact oneCell1 rfl
        case c1 => unfold maxLen; have := HM.out; omega
        case c2 => have := HM.out; omega
        intro v' w3 hp3
        have hfin := LS.app O0.out O2.out O3.out O4.out HW2.out.hB HW2.out.at_.hi HI2.out (fun g hg => HLU.out H9.out.ne g hg) (by rw [← HM.out]; exact hp3)
        have HFN := Lib.hid hfin.1
        have HWF := Lib.hid (HW2.out.own hfin.2)
        clear hp3 hfin hq2
        go_wp2_with fail
        go_roundw
        case rel =>
          refine ⟨k + 1, by omega, by go_num, r2, addF S c, ?_⟩
          have e : fines (xss.take (k + 1)) = og ++ [c] := by have := HSN.out; rw [HF.out] at this; simpa using this
          rw [e]
          exact ⟨HA2.out, HWF.out, HFN.out⟩
        case measure => simp [intOf]; omega
    · obtain rfl : k = n := by omega
      have htk : xss.take k = xss := by rw [HN.out]; exact List.take_length
      rw [htk] at hA hL
      have hLen := Len_ hW.at_
      rw [hA.inv.1.cn] at hLen
      obtain ⟨m, hm⟩ : ∃ m, m = (fines xss).length := ⟨_, rfl⟩
      obtain ⟨la, lc, hlv⟩ : ∃ la lc, u8 = .slice la (fines xss).length lc := by
        rcases hL.1.form with ⟨rfl, e0, -⟩ | ⟨g, cap, rfl, -⟩
        · exact ⟨_, _, by rw [e0]⟩
        · exact ⟨_, _, rfl⟩
      rw [← hm] at hlv hLen
      subst hlv
      have HHL := Lib.hid hL
      have HHA := Lib.hid hA
      have HHW := Lib.hid hW
      have HLE := Lib.hid hLen
      have hm9 : m ≤ 80 := by rw [hm]; have := fines_len xss; have := HN.out; omega
      clear hL hA hW hLen hm htk
      go_wp2_with ((go_at_call 20; refine (HLE.out).mono ?_; rintro e w' ⟨rfl, rfl⟩))
      go_ret2
      exact ⟨r1, S, _, rfl, HHA.out, HHW.out, us, HHL.out⟩
end Go.Proofs.Ytkaklgjdmlddmaa
