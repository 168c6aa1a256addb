/-
  Package trail: Imply, Decide: the walks.
-/
import Derived.Test.YtghlgegfokjgbaaTrail3
namespace Go.Proofs.Ytghlgegfokjgbaa
open Go.ChangeShapes Go.WideShapes Go.ChangeAt Go.RowKit

set_option maxHeartbeats 1000000 in
set_option maxRecDepth 100000 in
theorem trail_Imply_yes {w : World} {t : Nat} {s : TS} {fp : List Nat} (h : TrailAt w t s fp) (l r : Int) (hf : s.isFree l = true) (h1 : s.l.length ≤ 1099511627776) (h2 : s.wh.length ≤ 1099511627776) (h3 : 0 ≤ s.now) (h4 : s.now ≤ 4611686018427387904) :
    Calls Try.prog 31 #[.pointer (some ⟨t, 0, none⟩), .int .i64 l, .int .i64 r] w fun e w' => e = .returned (.bool true) ∧ Done w fp t (s.put l r) w' := by
  obtain ⟨vl, gm, cm, vv, vw, hp, rfl⟩ := h.parts
  have hc := TrailAt.cells hp.b hp.m
  have HF := Lib.hid hf
  have hvl : (varOf l).toNat < s.ms.length := by unfold TS.isFree at hf; rw [Bool.and_eq_true] at hf; exact has_lt hf.1
  obtain ⟨m0, m1, m2⟩ := hc.m0 _ hvl
  have f0 := hc.mf ((varOf l).toNat * 3) (by omega)
  have f1 := hc.mf ((varOf l).toNat * 3 + 1) (by omega)
  have f2 := hc.mf ((varOf l).toNat * 3 + 2) (by omega)
  obtain ⟨c0, -, c2, -, -, -⟩ := hp.c
  obtain ⟨av, cv, rfl⟩ := own_slice hp.v
  have hgt : gm ≠ t := fun e => (hp.sep.1.1) (by rw [e]; rfl)
  obtain ⟨hp1, hc1⟩ := hp.putM rfl (varOf l).toNat hvl (signOf l, (s.lv.length : Int), r)
  simp only at hp1 hc1
  have HP1 := Lib.hid (hp1.alloc (.cells #[.int .i64 l] 3))
  have HC := Lib.hid hc
  have HC1 := Lib.hid (hc1.alloc (.cells #[.int .i64 l] 3))
  clear hf hp hp1 hc hc1 h
  go_enter Try.func31, Try.ntmps31
  go_wp2_with fail
  refine (trail_free_yes HC.out l HF.out).mono ?_
  rintro e w1 ⟨rfl, rfl⟩
  go_wp2_with (at_builtin; refine wpList_app rfl _ _ _ rfl 3 (.int .i64 0) 1 8 Try.underlying23 infoInt rfl (by decide) vl s.l.length (s.l.map i64) rfl ?ho _ _ 1 1 [.int .i64 l] rfl rfl ?hn ?hs ?c1 ?c2 ?_)
  case ho => exact HP1.out.l
  case hn => exact cell_new _ _ _ _ (by simp)
  case hs => exact one_cell rfl
  case c1 => unfold maxLen; omega
  case c2 => omega
  intro v1 wA hpA
  obtain ⟨hbA, hpB, hcB, hnB⟩ := HP1.out.putL l hpA
  obtain ⟨g1, cp1, rfl, -, -, -⟩ := hpA.1.some_ (by omega)
  have cA0 : wA.cell? ⟨t, 0, none⟩ = some vl := hbA.cell 0
  have cA4 : wA.cell? ⟨t, 4, none⟩ = some (.int .i64 s.now) := hbA.cell 4
  have fA0 : wA.frozen? ⟨t, 0, none⟩ = false := hbA.frozen 0
  have fA4 : wA.frozen? ⟨t, 4, none⟩ = false := hbA.frozen 4
  obtain ⟨hpD, hcD⟩ := hpB.putNow (s.now + 1)
  have HB := Lib.hid hcB
  have HD := Lib.hid hcD
  have HNB := Lib.hid hnB
  have HPD := Lib.hid hpD
  clear hbA hpA hpB hcB hnB hcD hpD
  go_wp2_with fail
  obtain ⟨W2, hW2⟩ : ∃ W2, W2 = (wA.setCell ⟨t, 0, none⟩ (.slice (some ⟨g1, 0, none⟩) (s.l.length + 1) cp1)).setCell ⟨t, 4, none⟩ (.int .i64 (s.now + 1)) := ⟨_, rfl⟩
  rw [← hW2] at HPD HD ⊢
  clear hW2 cA0 cA4 fA0 fA4
  obtain ⟨-, -, -, k3, k4, -, -, r3, -, ht⟩ := HPD.out.c
  have HPE := Lib.hid (HPD.out.drew.alloc (.cells #[.int .i64 (s.now + 1)] 3))
  go_region_law (first
    | (refine step_app rfl (.tmp 48) (.tmp 53) _ rfl 3 (.int .i64 0) 1 8 Try.underlying23 infoInt rfl (by decide) vw s.wh.length (s.wh.map i64) (by simp [Act.eval]) ?ho W2.heap.size 0 1 1 [.int .i64 (s.now + 1)] (by simp [Act.eval]) rfl ?hn ?hs ?c1 ?c2 ?_
       case ho => exact HPE.out.h
       case hn => exact cell_new _ _ _ _ (by simp)
       case hs => exact one_cell rfl
       case c1 => unfold maxLen; omega
       case c2 => omega
       intro v3 wB hpF
       obtain ⟨hbF, hpG, hcG, hnG⟩ := HPE.out.putW (s.now + 1) hpF
       obtain ⟨g3, cp3, rfl, -, -, -⟩ := hpF.1.some_ (by omega)
       have kB3 : wB.cell? ⟨t, 3, none⟩ = some vw := hbF.cell 3
       have rB3 : wB.frozen? ⟨t, 3, none⟩ = false := hbF.frozen 3
       have HG := Lib.hid hcG
       have HNG := Lib.hid hnG
       have HPG := Lib.hid hpG
       clear hbF hpF hpG hcG hnG))
  all_goals go_wp2
  all_goals go_ret
  all_goals exact ⟨rfl, imply_close (by rfl) (by rfl) (by rfl) (by rfl) HC1.out HB.out HD.out (((Chg.refl _ W2).drew).alloc _) HG.out HNB.out HNG.out HPG.out⟩

theorem trail_Imply_no {w : World} {t : Nat} {s : TS} {fp : List Nat} (h : TrailAt w t s fp) (l r : Int) (hf : s.isFree l = false) :
    Calls Try.prog 31 #[.pointer (some ⟨t, 0, none⟩), .int .i64 l, .int .i64 r] w fun e w' => e = .returned (.bool false) ∧ w = w' := by
  obtain ⟨vl, gm, cm, vv, vw, hp, rfl⟩ := h.parts
  have HC := Lib.hid (TrailAt.cells hp.b hp.m)
  have HF := Lib.hid hf
  clear h hp hf
  go_enter Try.func31, Try.ntmps31
  go_wp2_with ((go_at_call 38; refine (trail_free_no HC.out l HF.out).mono ?_; rintro e w' ⟨rfl, rfl⟩))
  go_ret
  exact ⟨rfl, rfl⟩
theorem trail_Decide_no {w : World} {t : Nat} {s : TS} {fp : List Nat} (h : TrailAt w t s fp) (l : Int) (hf : s.isFree l = false) :
    Calls Try.prog 15 #[.pointer (some ⟨t, 0, none⟩), .int .i64 l] w fun e w' => e = .returned (.bool false) ∧ w = w' := by
  obtain ⟨vl, gm, cm, vv, vw, hp, rfl⟩ := h.parts
  have HC := Lib.hid (TrailAt.cells hp.b hp.m)
  have HF := Lib.hid hf
  clear h hp hf
  go_enter Try.func15, Try.ntmps15
  go_wp2_with ((go_at_call 38; refine (trail_free_no HC.out l HF.out).mono ?_; rintro e w' ⟨rfl, rfl⟩))
  go_ret
  exact ⟨rfl, rfl⟩
theorem decide_close {w W1 W2 : World} {t gm : Nat} {vl vv vw v3 : Value} {s : TS} {o : Obj} (hG : Chg (fun k => k = t ∨ vv.ownBlock = some k) (w.drew.alloc o) W1) (hn : ∀ k, v3.ownBlock = some k → vv.ownBlock = some k ∨ (w.drew.alloc o).heap.size ≤ k)
    (h : Done W1 (t :: gm :: (vl.ownBlock.toList ++ (v3.ownBlock.toList ++ vw.ownBlock.toList))) t s W2) : Done w (t :: gm :: (vl.ownBlock.toList ++ (vv.ownBlock.toList ++ vw.ownBlock.toList))) t s W2 := by
  have hc := ((Chg.refl (fun k => k = t ∨ vv.ownBlock = some k) w).drew.alloc o).trans hG (fun i hi => .inl hi)
  refine Done.after hc ?_ ?_ h
  · rintro k (rfl | h)
    · left; simp
    · left; simp [h]
  · intro k hk
    have z : w.heap.size ≤ (w.drew.alloc o).heap.size := ((Chg.refl (fun _ => False) w).drew.alloc o).size
    simp only [List.mem_cons, List.mem_append] at hk ⊢
    rcases hk with rfl | rfl | hk | hk | hk
    · left; simp
    · left; simp
    · left; right; right; left; exact hk
    · rcases hn k (own_mem hk) with h | h
      · left; right; right; right; left; exact mem_own h
      · right; omega
    · left; right; right; right; right; exact hk
def TS.up (s : TS) : TS := { s with lv := s.lv ++ [(s.l.length : Int)] }
set_option maxHeartbeats 1000000 in
set_option maxRecDepth 100000 in
theorem trail_Decide_yes {w : World} {t : Nat} {s : TS} {fp : List Nat} (h : TrailAt w t s fp) (l : Int) (hf : s.isFree l = true) (h1 : s.l.length ≤ 1099511627776) (h2 : s.wh.length ≤ 1099511627776) (h3 : 0 ≤ s.now) (h4 : s.now ≤ 4611686018427387904) (h5 : s.lv.length ≤ 1099511627776) :
    Calls Try.prog 15 #[.pointer (some ⟨t, 0, none⟩), .int .i64 l] w fun e w' => e = .returned (.bool true) ∧ Done w fp t (s.up.put l (-1)) w' := by
  obtain ⟨vl, gm, cm, vv, vw, hp, rfl⟩ := h.parts
  have HC := Lib.hid (TrailAt.cells hp.b hp.m)
  have HF := Lib.hid hf
  obtain ⟨k0, -, k2, -, -, -, r2, -, -, ht⟩ := hp.c
  obtain ⟨al, cl, rfl⟩ := own_slice hp.l
  have HP1 := Lib.hid (hp.drew.alloc (.cells #[.int .i64 s.l.length] 3))
  have HN := Lib.hid hp.nd
  clear hf hp h
  go_enter Try.func15, Try.ntmps15
  go_wp2_with fail
  refine (trail_free_yes HC.out l HF.out).mono ?_
  rintro e w1 ⟨rfl, rfl⟩
  go_wp2_with fail
  go_region_law (first
    | (refine step_app rfl (.tmp 19) (.tmp 25) _ rfl 3 (.int .i64 0) 1 8 Try.underlying23 infoInt rfl (by decide) vv s.lv.length (s.lv.map i64) (by simp [Act.eval]) ?ho w.heap.size 0 1 1 [.int .i64 s.l.length] (by simp [Act.eval]) rfl ?hn ?hs ?c1 ?c2 ?_
       case ho => exact HP1.out.v
       case hn => exact cell_new _ _ _ _ (by simp)
       case hs => exact one_cell rfl
       case c1 => unfold maxLen; omega
       case c2 => omega
       intro v3 wB hpF
       obtain ⟨hbF, hpG, hcG, hnG⟩ := HP1.out.putV s.l.length hpF
       obtain ⟨g3, cp3, rfl, -, -, -⟩ := hpF.1.some_ (by omega)
       have kB3 : wB.cell? ⟨t, 2, none⟩ = some vv := hbF.cell 2
       have rB3 : wB.frozen? ⟨t, 2, none⟩ = false := hbF.frozen 2
       have HG := Lib.hid hcG
       have HNG := Lib.hid hnG
       have HPG := Lib.hid hpG
       clear hbF hpF hpG hcG hnG))
  all_goals
    go_wp2_with fail
    refine (trail_Imply_yes (HPG.out.trail' (s := s.up) rfl rfl rfl rfl rfl rfl) l (-1) HF.out h1 h2 h3 h4).mono ?_
    rintro e w4 ⟨rfl, hD⟩
    go_wp2_with fail
    go_ret
    exact ⟨rfl, decide_close HG.out HNG.out hD⟩
end Go.Proofs.Ytghlgegfokjgbaa
