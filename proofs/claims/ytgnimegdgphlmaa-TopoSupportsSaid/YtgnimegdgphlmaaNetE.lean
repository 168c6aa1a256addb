/-
  Netlists: the document's wide, Data, walked.
-/
import Derived.Test.YtgnimegdgphlmaaNetC
import Derived.Test.YtgnimegdgphlmaaOwnB
namespace Go.Proofs.Ytgnimegdgphlmaa
open Go.ChangeShapes Go.WideShapes Go.ChangeAt Go.RowKit
set_option linter.unusedVariables false
set_option linter.unusedSimpArgs false
attribute [local go_sem ↓] Go.wp_at_zero Go.wp_at_succ
/-- A memory's value. -/
def MemV (w : World) (v : Value) (x : MemD) : Prop := ∃ u1 u2, v = .agg #[.int .i64 x.addr, .int .i64 x.word, .bool x.any, u1, u2] ∧ Seq w 2 RdR rd0 u1 x.rd ∧ Seq w 3 WrR wr0 u2 x.wr
theorem MemV.below {w w' : World} {v : Value} {x : MemD} (h : MemV w v x) (hb : Below w.heap.size w w') : MemV w' v x := by
  obtain ⟨u1, u2, rfl, h1, h2⟩ := h
  exact ⟨u1, u2, rfl, h1.below stays_rd hb, h2.below stays_wr hb⟩
theorem MemR.val {w : World} {b o : Nat} {x : MemD} (h : MemR w b o x) : ∃ u1 u2, w.cell? ⟨b, o, none⟩ = some (.int .i64 x.addr) ∧ w.cell? ⟨b, o + 1, none⟩ = some (.int .i64 x.word) ∧ w.cell? ⟨b, o + 2, none⟩ = some (.bool x.any) ∧ w.cell? ⟨b, o + 3, none⟩ = some u1 ∧ w.cell? ⟨b, o + 4, none⟩ = some u2 ∧ MemV w (.agg #[.int .i64 x.addr, .int .i64 x.word, .bool x.any, u1, u2]) x := by
  obtain ⟨h1, h2, h3, ⟨u, h4, h5⟩, v, h6, h7⟩ := h
  exact ⟨u, v, h1, h2, h3, h4, h6, u, v, rfl, h5, h7⟩
theorem MemV.open_ {w : World} {v : Value} {x : MemD} (h : MemV w v x) : ∃ ra rc nr wa wc nw, v = .agg #[.int .i64 x.addr, .int .i64 x.word, .bool x.any, .slice ra nr rc, .slice wa nw wc] ∧ nr = x.rd.length ∧ nw = x.wr.length ∧ nr ≤ rc ∧ rc ≤ 9223372036854775807 ∧ nw ≤ wc ∧ wc ≤ 9223372036854775807 ∧
    Hid (Seq w 2 RdR rd0 (.slice ra nr rc) x.rd) ∧ Hid (Seq w 3 WrR wr0 (.slice wa nw wc) x.wr) := by
  obtain ⟨u1, u2, rfl, h1, h2⟩ := h
  obtain ⟨ra, rc, rfl, r1, r2⟩ := h1.form
  obtain ⟨wa, wc, rfl, w1, w2⟩ := h2.form
  exact ⟨ra, rc, _, wa, wc, _, rfl, rfl, rfl, r1, r2, w1, w2, Lib.hid h1, Lib.hid h2⟩
def MBox (W : World) (g : Nat) (x : MemD) (u1 u2 : Value) : Prop := Blk W g 56 #[.int .i64 x.addr, .int .i64 x.word, .bool x.any, u1, u2]
theorem MBox.later {w W : World} {g : Nat} {x : MemD} {u1 u2 : Value} (h : MBox w g x u1 u2) (hb : Below w.heap.size w W) : MBox W g x u1 u2 := Blk.below h hb h.lt
section
variable {W : World} {g : Nat} {x : MemD} {u1 u2 : Value} (h : MBox W g x u1 u2)
include h
theorem MBox.c0 : W.cell? ⟨g, 0, none⟩ = some (.int .i64 x.addr) := h.cell 0
theorem MBox.c1 : W.cell? ⟨g, 1, none⟩ = some (.int .i64 x.word) := h.cell 1
theorem MBox.c3 : W.cell? ⟨g, 3, none⟩ = some u1 := h.cell 3
theorem MBox.c4 : W.cell? ⟨g, 4, none⟩ = some u2 := h.cell 4
end
theorem below_d {w wr : World} {n : Nat} {B : Nat} (h : Below B w wr) : Below B w (wr.drewN n) := below_drewN h n
set_option maxHeartbeats 4000000 in
set_option maxRecDepth 100000 in
theorem r05_wide {w : World} {x : MemD} {v : Value} (h : MemV w v x) (hl : liMH x = true) : Calls Try.prog 36 #[v] w fun e w' => e = .returned (.bool (wideN x)) ∧ Below w.heap.size w w' := by
  obtain ⟨ans, hans⟩ : ∃ b, b = wideN x := ⟨_, rfl⟩
  rw [← hans]
  obtain ⟨ra, rc, nr, wa, wc, nw, rfl, hnr, hnw, r1, r2, w1, w2, HR, HW⟩ := h.open_
  obtain ⟨l1, l2, l3⟩ := of_decide_eq_true hl
  have r3 : nr ≤ 6 := by omega
  have w3 : nw ≤ 6 := by omega
  have HA := Lib.hid hans
  have HNR := Lib.hid hnr
  have HNW := Lib.hid hnw
  obtain ⟨wb, hwb⟩ : ∃ wb, wb = w.alloc (.cells #[.int .i64 x.addr, .int .i64 x.word, .bool x.any, .slice ra nr rc, .slice wa nw wc] 56) := ⟨_, rfl⟩
  obtain ⟨bx, hbx⟩ : ∃ bx, bx = w.heap.size := ⟨_, rfl⟩
  have HB1 : Hid (Below w.heap.size w wb) := Lib.hid (by rw [hwb]; exact below_new1 w _)
  have HBX : Hid (MBox wb bx x (.slice ra nr rc) (.slice wa nw wc)) := Lib.hid (by rw [hwb, hbx]; exact Blk.new w _ _)
  have HW1 := Lib.hid hwb
  have HBE := Lib.hid hbx
  clear hans hnr hnw h hl l1 l2 l3 hwb hbx
  go_enter Try.func36, Try.ntmps36
  go_wp2
  all_goals first
    | (have HF : Hid (ans = true) := Lib.hid (by
         have : widH x = true := decide_eq_true (by omega)
         rw [HA.out]; unfold wideN; rw [this, Bool.true_or, Bool.true_or])
       go_ret
       exact ⟨by rw [HF.out]; rfl, below_new1 w _⟩)
    | skip
  rw [← HW1.out, ← HBE.out]
  have HH : Hid (widH x = false) := Lib.hid (decide_eq_false (by omega))
  go_loopw [3] (fun i wr => ∃ k : Nat, k ≤ nr ∧ i = .int .i64 k ∧ (∀ j, j < k → widR x (x.rd.getD j rd0) = false) ∧ Below wb.heap.size wb wr) (fun i _ => nr - (intOf i).toNat)
  case atStart => exact ⟨0, Nat.zero_le _, rfl, fun _ h => absurd h (by omega), Below.refl _ _⟩
  case round =>
    obtain ⟨k, hk, rfl, hrel, hB⟩ := hrel
    have HRL := Lib.hid hrel
    have HBB := Lib.hid hB
    have c0 := (HBX.out.later hB).c0
    have c3 := (HBX.out.later hB).c3
    have HB2 := Lib.hid (HB1.out.trans (hB.mono HB1.out.size))
    clear hrel hB
    by_cases hlt : (k : Int) < (nr : Int)
    · have hkn : k < x.rd.length := by have := HNR.out; omega
      obtain ⟨b, off, cap', he, hone⟩ := HR.out.at_ hkn
      injection he with e1 e2 e3
      subst e1
      obtain ⟨-, u3, q1, hin⟩ := hone
      obtain ⟨aa3, cc3, rfl, -, i3, i4, -⟩ := hin
      obtain ⟨y, hy⟩ : ∃ y, y = x.rd.getD k rd0 := ⟨_, rfl⟩
      rw [← hy] at q1 i3
      obtain ⟨ny, hny⟩ : ∃ n, n = y.2.length := ⟨_, rfl⟩
      rw [← hny] at q1 i3
      replace q1 := cell_below q1 HB2.out
      unfold maxLen at i4
      have HY := Lib.hid hy
      have HNY := Lib.hid hny
      have HKN := Lib.hid hkn
      clear hy hny hkn e2 e3
      by_cases hne : (ny : Int) = x.addr
      · have hb : ((ny : Int) != x.addr) = false := by rw [bne_eq_false_iff_eq]; exact hne
        have HT : Hid (widR x y = false) := Lib.hid (decide_eq_false (by rw [← HNY.out]; simpa using hne))
        clear hne
        go_wp2
        go_quiet (fail)
        go_wp2
        go_roundw
        case rel => exact ⟨k + 1, by omega, by go_num, snoc_no HRL.out (by rw [← HY.out]; exact HT.out), below_d HBB.out⟩
        case measure => simp [intOf]; omega
      · have hb : ((ny : Int) != x.addr) = true := by rw [bne_iff_ne]; exact hne
        have HF : Hid (ans = true) := Lib.hid (by
          have : widR x y = true := decide_eq_true (by rw [← HNY.out]; exact hne)
          rw [HA.out]; unfold wideN; rw [any_at rd0 HKN.out (by rw [← HY.out]; exact this), Bool.or_true, Bool.true_or])
        clear hne
        go_wp2
        go_quiet (fail)
        go_wp2
        repeat rw [Exit.noGoto_ret]
        go_ret
        exact ⟨by rw [HF.out]; rfl, below_d HB2.out⟩
    · have HRA : Hid (x.rd.any (widR x) = false) := Lib.hid (any_non rd0 (n := k) (by have := HNR.out; omega) HRL.out)
      obtain ⟨wo, rfl⟩ : ∃ wo : World, wo = wr := ⟨_, rfl⟩
      go_wp2
      go_loopw [4] (fun i wr => ∃ k : Nat, k ≤ nw ∧ i = .int .i64 k ∧ (∀ j, j < k → widW x (x.wr.getD j wr0) = false) ∧ Below wb.heap.size wb wr) (fun i _ => nw - (intOf i).toNat)
      case atStart => exact ⟨0, Nat.zero_le _, rfl, fun _ h => absurd h (by omega), HBB.out⟩
      case round =>
        obtain ⟨k2, hk2, rfl, hrel, hB⟩ := hrel
        have HRL2 := Lib.hid hrel
        have HBB2 := Lib.hid hB
        have d0 := (HBX.out.later hB).c0
        have d1 := (HBX.out.later hB).c1
        have d4 := (HBX.out.later hB).c4
        have HB3 := Lib.hid (HB1.out.trans (hB.mono HB1.out.size))
        clear hrel hB
        by_cases hlt2 : (k2 : Int) < (nw : Int)
        · have hkn : k2 < x.wr.length := by have := HNW.out; omega
          obtain ⟨b, off, cap', he, hone⟩ := HW.out.at_ hkn
          injection he with e1 e2 e3
          subst e1
          obtain ⟨-, ⟨u3, q1, hin⟩, u4, q2, hin4⟩ := hone
          obtain ⟨aa3, cc3, rfl, -, i3, i4, -⟩ := hin
          obtain ⟨aa4, cc4, rfl, -, i5, i6, -⟩ := hin4
          obtain ⟨y, hy⟩ : ∃ y, y = x.wr.getD k2 wr0 := ⟨_, rfl⟩
          rw [← hy] at q1 q2 i3 i5
          obtain ⟨ny, hny⟩ : ∃ n, n = y.2.1.length := ⟨_, rfl⟩
          obtain ⟨my, hmy⟩ : ∃ n, n = y.2.2.length := ⟨_, rfl⟩
          rw [← hny] at q1 i3
          rw [← hmy] at q2 i5
          replace q1 := cell_below q1 HB3.out
          replace q2 := cell_below q2 HB3.out
          unfold maxLen at i4 i6
          have HY := Lib.hid hy
          have HNY := Lib.hid hny
          have HMY := Lib.hid hmy
          have HKN := Lib.hid hkn
          clear hy hny hmy hkn e2 e3
          have HF : Hid (widW x y = true → ans = true) := Lib.hid (fun h => by
            rw [HA.out]; unfold wideN; rw [any_at wr0 HKN.out (by rw [← HY.out]; exact h), Bool.or_true])
          by_cases hne : (ny : Int) = x.addr
          · have hb : ((ny : Int) != x.addr) = false := by rw [bne_eq_false_iff_eq]; exact hne
            by_cases hne2 : (my : Int) = x.word
            · have hb2 : ((my : Int) != x.word) = false := by rw [bne_eq_false_iff_eq]; exact hne2
              have HT : Hid (widW x y = false) := Lib.hid (decide_eq_false (by rw [← HNY.out, ← HMY.out]; omega))
              clear hne hne2
              go_wp2
              go_quiet (fail)
              go_wp2
              go_roundw
              case rel => exact ⟨k2 + 1, by omega, by go_num, snoc_no HRL2.out (by rw [← HY.out]; exact HT.out), below_d HBB2.out⟩
              case measure => simp [intOf]; omega
            · have hb2 : ((my : Int) != x.word) = true := by rw [bne_iff_ne]; exact hne2
              replace HF : Hid (ans = true) := Lib.hid (HF.out (decide_eq_true (by rw [← HNY.out, ← HMY.out]; exact .inr hne2)))
              clear hne hne2
              go_wp2
              go_quiet (fail)
              go_wp2
              repeat rw [Exit.noGoto_ret]
              go_ret
              exact ⟨by rw [HF.out]; rfl, below_d HB3.out⟩
          · have hb : ((ny : Int) != x.addr) = true := by rw [bne_iff_ne]; exact hne
            replace HF : Hid (ans = true) := Lib.hid (HF.out (decide_eq_true (by rw [← HNY.out, ← HMY.out]; exact .inl hne)))
            clear hne
            go_wp2
            go_quiet (fail)
            go_wp2
            repeat rw [Exit.noGoto_ret]
            go_ret
            exact ⟨by rw [HF.out]; rfl, below_d HB3.out⟩
        · have HF : Hid (ans = false) := Lib.hid (by
            rw [HA.out]; unfold wideN
            rw [HH.out, HRA.out, any_non wr0 (n := k2) (by have := HNW.out; omega) HRL2.out]; rfl)
          go_wp2
          go_ret
          exact ⟨by rw [HF.out]; rfl, HB3.out⟩
end Go.Proofs.Ytgnimegdgphlmaa
