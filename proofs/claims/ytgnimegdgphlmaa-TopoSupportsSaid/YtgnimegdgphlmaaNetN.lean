/-
  Package net: Data, walked.
-/
import Derived.Test.YtgnimegdgphlmaaNetL
namespace Go.Proofs.Ytgnimegdgphlmaa
open Go.ChangeShapes Go.WideShapes Go.ChangeAt Go.RowKit
set_option linter.unusedVariables false
set_option linter.unusedSimpArgs false
attribute [local go_sem ↓] Go.wp_at_zero Go.wp_at_succ
set_option maxHeartbeats 4000000 in
set_option maxRecDepth 100000 in
theorem net_Data {w : World} {x : MemD} {v : Value} (h : MemV w v x) (hl : liMH x = true) {p : Nat} (hp : p < x.rd.length) (hb : -1099511627776 ≤ (x.rd.getD p rd0).1 ∧ (x.rd.getD p rd0).1 ≤ 1099511627776) :
    Calls Try.prog 41 #[v, .int .i64 p] w (RetI w (dataM (x.rd.getD p rd0).1 x.word)) := by
  obtain ⟨ra, rc, nr, wa, wc, nw, rfl, hnr, hnw, r1, r2, w1, w2, HR, HW⟩ := h.open_
  obtain ⟨l1, l2, l3⟩ := of_decide_eq_true hl
  have hp1 : (p : Int) < (nr : Int) := by omega
  have hp6 : (p : Int) ≤ 6 := by omega
  have hp0 : decide ((p : Int) < 0) = false := decide_eq_false (by omega)
  have hpn : decide (nr ≤ p) = false := decide_eq_false (by omega)
  obtain ⟨b, off, cap', he, hone⟩ := HR.out.at_ hp
  injection he with e1 e2 e3
  subst e1
  obtain ⟨q0, -⟩ := hone
  obtain ⟨y, hy⟩ : ∃ y, y = (x.rd.getD p rd0).1 := ⟨_, rfl⟩
  rw [← hy] at q0 hb ⊢
  obtain ⟨hb1, hb2⟩ := hb
  obtain ⟨wd, hwd⟩ : ∃ wd, wd = x.word := ⟨_, rfl⟩
  rw [← hwd] at l3
  rw [← hwd, dataM_eq]
  obtain ⟨wb, hwb⟩ : ∃ wb, wb = w.alloc (.cells #[.int .i64 x.addr, .int .i64 wd, .bool x.any, .slice (some ⟨b, off, none⟩) nr rc, .slice wa nw wc] 56) := ⟨_, rfl⟩
  obtain ⟨bx, hbx⟩ : ∃ bx, bx = w.heap.size := ⟨_, rfl⟩
  have HB1 : Hid (Below w.heap.size w wb) := Lib.hid (by rw [hwb]; exact below_new1 w _)
  have HBX : Hid (MBox wb bx x (.slice (some ⟨b, off, none⟩) nr rc) (.slice wa nw wc)) := Lib.hid (by rw [hwb, hbx, hwd]; exact Blk.new w _ _)
  have HQ0 := Lib.hid q0
  have HW1 := Lib.hid hwb
  have HBE := Lib.hid hbx
  clear hnr hnw h hl l1 l2 hwb hbx e2 e3 hp q0 hy hwd
  go_enter Try.func41, Try.ntmps41
  go_wp2
  rw [← HW1.out, ← HBE.out]
  go_loopw [4, 5, 17] (fun u _ i wr => ∃ k : Nat, k ≤ wd.toNat ∧ i = .int .i64 k ∧ OwnI wb wr u (dat y k)) (fun _ _ i _ => wd.toNat - (intOf i).toNat)
  case atStart => exact ⟨0, Nat.zero_le _, rfl, OwnI.start wb⟩
  case round =>
    obtain ⟨k, hk, rfl, hO⟩ := hrel
    have c3 := (HBX.out.later hO.2.1).c3
    have q0 := cell_below HQ0.out (HB1.out.trans (hO.2.1.mono HB1.out.size))
    have HO := Lib.hid hO
    clear hO
    by_cases hlt : (k : Int) < wd
    · have hk9 : (k : Int) ≤ 100 := by omega
      have HB9 : Hid ((dat y k).length + 1 ≤ 1099511627776) := Lib.hid (by rw [dat_len]; omega)
      go_wp2_with (at_builtin; refine wpList_I (w := wb) rfl _ _ rfl _ (dat y k) rfl (some ⟨wr.heap.size, 0, none⟩) 1 1 [y + (k : Int)] rfl rfl HB9.out (HO.out.below (below_new1 wr (.cells #[.int .i64 (y + (k : Int))] 3))) (Src.one (heap_new1 _ _)) ?_; intro v4 w4 h4; have H4 := Lib.hid h4; clear h4)
      go_roundw
      case rel => exact ⟨k + 1, by omega, by go_num, by rw [dat_succ]; exact H4.out⟩
      case measure => simp [intOf]; omega
    · obtain rfl : k = wd.toNat := by omega
      have HF : Hid (RetI w (dat y wd.toNat) (.returned u4) wr) := Lib.hid ⟨_, rfl, HO.out.from_ HB1.out⟩
      go_wp2
      go_ret
      exact HF.out
end Go.Proofs.Ytgnimegdgphlmaa
