/-
  Netlists: Light, walked.
-/
import Derived.Test.YtgnimegdgphlmaaNetA
import Derived.Deep.RegionHeld3
import Derived.Deep.DrawnRows
namespace Go.Proofs.Ytgnimegdgphlmaa
open Go.ChangeShapes Go.WideShapes Go.ChangeAt Go.RowKit
set_option linter.unusedVariables false
set_option linter.unusedSimpArgs false
attribute [local go_sem ↓] Go.wp_at_zero Go.wp_at_succ
def liR (x : RdD) : Bool := decide (x.2.length ≤ 100 ∧ x.1 ≤ 1099511627776 ∧ -1099511627776 ≤ x.1)
def liW (x : WrD) : Bool := decide (x.2.1.length ≤ 100 ∧ x.2.2.length ≤ 100)
def liMH (m : MemD) : Bool := decide (m.rd.length ≤ 6 ∧ m.wr.length ≤ 6 ∧ m.word ≤ 100)
def liM (m : MemD) : Bool := liMH m && m.rd.all liR && m.wr.all liW
theorem all_no {α : Type} {l : List α} {p : α → Bool} {k : Nat} (d : α) (hk : k < l.length) (h : p (l.getD k d) = false) : l.all p = false := by
  rw [List.all_eq_false]
  exact ⟨_, List.getElem_mem hk, by simpa [List.getD, hk] using h⟩
theorem all_yes {α : Type} {l : List α} {p : α → Bool} (d : α) (h : ∀ j, j < l.length → p (l.getD j d) = true) : l.all p = true := by
  rw [List.all_eq_true]
  intro x hx
  obtain ⟨j, hj, rfl⟩ := List.getElem_of_mem hx
  simpa [List.getD, hj] using h j hj
def liH (d : NetD) : Bool := decide (d.inp.length ≤ 2100 ∧ d.lat.length ≤ 2100 ∧ d.ands.length ≤ 2100 ∧ d.out.length ≤ 1100 ∧ d.bad.length ≤ 1100 ∧ d.con.length ≤ 1100 ∧ d.mems.length ≤ 6)
def lightN (d : NetD) : Bool := liH d && d.mems.all liM
theorem below_new1 (w : World) (a : Obj) : Below w.heap.size w (w.alloc a) := (Below.refl _ _).alloc (Nat.le_refl _) _
theorem box8 {w : World} {cs : Array Value} {T : TypeId} : Blk (w.alloc (.cells cs T)) w.heap.size T cs := Blk.new w T cs
set_option maxHeartbeats 4000000 in
set_option maxRecDepth 100000 in
theorem light_net {w : World} {d : NetD} {vi vl vo vb vc vm va : Value} (h : NetP w d vi vl vo vb vc vm va) :
    Calls Try.prog 21 #[netV d vi vl vo vb vc vm va] w fun e w' => e = .returned (.bool (lightN d)) ∧ Below w.heap.size w w' := by
  obtain ⟨ans, hans⟩ : ∃ b, b = lightN d := ⟨_, rfl⟩
  rw [← hans]
  obtain ⟨ai, ci, rfl, -, i1, i2, -⟩ := id h.inp
  obtain ⟨al, cl, rfl, l1, l2⟩ := h.lat.form
  obtain ⟨ao, co, rfl, -, o1, o2, -⟩ := id h.out
  obtain ⟨ab, cb, rfl, -, b1, b2, -⟩ := id h.bad
  obtain ⟨ac, cc, rfl, -, c1, c2, -⟩ := id h.con
  obtain ⟨am, cm, rfl, m1, m2⟩ := h.mems.form
  obtain ⟨aa, ca, rfl, a1, a2⟩ := h.ands.form
  obtain ⟨ni, hni⟩ : ∃ n, n = d.inp.length := ⟨_, rfl⟩
  obtain ⟨nl, hnl⟩ : ∃ n, n = d.lat.length := ⟨_, rfl⟩
  obtain ⟨no, hno⟩ : ∃ n, n = d.out.length := ⟨_, rfl⟩
  obtain ⟨nb, hnb⟩ : ∃ n, n = d.bad.length := ⟨_, rfl⟩
  obtain ⟨nc, hnc⟩ : ∃ n, n = d.con.length := ⟨_, rfl⟩
  obtain ⟨nm, hnm⟩ : ∃ n, n = d.mems.length := ⟨_, rfl⟩
  obtain ⟨na, hna⟩ : ∃ n, n = d.ands.length := ⟨_, rfl⟩
  unfold netV
  rw [← hni, ← hnl, ← hno, ← hnb, ← hnc, ← hnm, ← hna]
  rw [← hni] at i1; rw [← hnl] at l1; rw [← hno] at o1; rw [← hnb] at b1; rw [← hnc] at c1; rw [← hnm] at m1; rw [← hna] at a1
  unfold maxLen at *
  have HA := Lib.hid hans
  have HP := Lib.hid h
  have HN := Lib.hid (And.intro hni (And.intro hnl (And.intro hno (And.intro hnb (And.intro hnc (And.intro hnm hna))))))
  clear hans h hni hnl hno hnb hnc hnm hna
  obtain ⟨w1, hw1⟩ : ∃ w1, w1 = w.alloc (.cells #[.int .i64 d.vars, .slice ai ni ci, .slice al nl cl, .slice ao no co, .slice ab nb cb, .slice ac nc cc, .slice am nm cm, .slice aa na ca] 27) := ⟨_, rfl⟩
  have hA1 : Below w.heap.size w w1 := by rw [hw1]; exact (Below.refl _ _).alloc (Nat.le_refl _) _
  have hbx : Blk w1 w.heap.size 27 #[.int .i64 d.vars, .slice ai ni ci, .slice al nl cl, .slice ao no co, .slice ab nb cb, .slice ac nc cc, .slice am nm cm, .slice aa na ca] := by rw [hw1]; exact Blk.new w _ _
  obtain ⟨bx, hbxe⟩ : ∃ bx, bx = w.heap.size := ⟨_, rfl⟩
  rw [← hbxe] at hbx
  have HC6 : Hid (∀ W, Below w1.heap.size w1 W → W.cell? ⟨bx, 6, none⟩ = some (.slice am nm cm)) := Lib.hid fun W hW => (hbx.below hW hbx.lt).cell 6
  have HW1 := Lib.hid hw1
  have HA1 := Lib.hid hA1
  have HBE := Lib.hid hbxe
  clear hw1 hA1 hbx hbxe
  go_enter Try.func21, Try.ntmps21
  go_wp2
  all_goals first
    | (have HF : Hid (ans = false) := Lib.hid (by
         obtain ⟨h1, h2, h3, h4, h5, h6, h7⟩ := HN.out
         have : liH d = false := decide_eq_false (by omega)
         rw [HA.out]; unfold lightN; rw [this, Bool.false_and])
       go_ret
       exact ⟨by rw [HF.out]; rfl, (Below.refl _ _).alloc (Nat.le_refl _) _⟩)
    | skip
  rw [← HW1.out, ← HBE.out]
  have HLH : Hid (liH d = true) := Lib.hid (by
    obtain ⟨h1, h2, h3, h4, h5, h6, h7⟩ := HN.out
    exact decide_eq_true (by omega))
  go_loopw [3] (fun i wr => ∃ k : Nat, k ≤ nm ∧ i = .int .i64 k ∧ (∀ j, j < k → liM (d.mems.getD j mem0) = true) ∧ Below w1.heap.size w1 wr) (fun i _ => nm - (intOf i).toNat)
  case atStart => exact ⟨0, Nat.zero_le _, rfl, fun _ h => absurd h (by omega), Below.refl _ _⟩
  case round =>
    obtain ⟨k, hk, rfl, hrel, hB⟩ := hrel
    have c6 := HC6.out wr hB
    have HR := Lib.hid hrel
    clear hrel
    by_cases hlt : (k : Int) < (nm : Int)
    · have hkn : k < d.mems.length := by obtain ⟨h1, h2, h3, h4, h5, h6, h7⟩ := HN.out; omega
      obtain ⟨b, off, cap', he, hmem⟩ := HP.out.mems.at_ hkn
      injection he with e1 e2 e3
      subst e1
      obtain ⟨mm, hmm⟩ : ∃ mm, mm = d.mems.getD k mem0 := ⟨_, rfl⟩
      rw [← hmm] at hmem
      have hB0 := HA1.out.trans (hB.mono HA1.out.size)
      obtain ⟨z0, z1, z2, ⟨u1, z3, hrd⟩, u2, z4, hwr⟩ := stays_mem hmem hB0
      obtain ⟨ra, rc, rfl, r1, r2⟩ := hrd.form
      obtain ⟨wa, wc, rfl, w1', w2'⟩ := hwr.form
      obtain ⟨nr, hnr⟩ : ∃ n, n = mm.rd.length := ⟨_, rfl⟩
      obtain ⟨nw, hnw⟩ : ∃ n, n = mm.wr.length := ⟨_, rfl⟩
      rw [← hnr] at z3 r1
      rw [← hnw] at z4 w1'
      have HRD := Lib.hid hrd
      have HWR := Lib.hid hwr
      have HMM := Lib.hid hmm
      have HNR := Lib.hid hnr
      have HNW := Lib.hid hnw
      have HB0 := Lib.hid hB0
      have HB := Lib.hid hB
      have HKN := Lib.hid hkn
      clear hrd hwr hmm hnr hnw hB0 hB hmem hkn e2 e3
      have HNO : Hid (liM mm = false → ans = false) := Lib.hid (fun h => by
        rw [HA.out]; unfold lightN
        rw [all_no mem0 HKN.out (by rw [← HMM.out]; exact h), Bool.and_false])
      go_wp2
      all_goals first
        | (have HF : Hid (ans = false) := Lib.hid (HNO.out (by
             have : liMH mm = false := decide_eq_false (by have := HNR.out; have := HNW.out; omega)
             unfold liM; rw [this, Bool.false_and, Bool.false_and]))
           try rw [Exit.noGoto_ret]
           go_ret
           exact ⟨by rw [HF.out]; rfl, (HB0.out.alloc HB0.out.size _)⟩)
        | skip
      have HMH : Hid (liMH mm = true) := Lib.hid (decide_eq_true (by have := HNR.out; have := HNW.out; omega))
      go_loop [5] (fun i => ∃ j : Nat, j ≤ nr ∧ i = .int .i64 j ∧ ∀ t, t < j → liR (mm.rd.getD t rd0) = true) (fun i => nr - (intOf i).toNat)
      case atStart => exact ⟨0, Nat.zero_le _, rfl, fun _ h => absurd h (by omega)⟩
      case round =>
        obtain ⟨j, hj, rfl, hrel⟩ := hrel
        have HR2 := Lib.hid hrel
        clear hrel
        by_cases hlt2 : (j : Int) < (nr : Int)
        · have hjn : j < mm.rd.length := by have := HNR.out; omega
          obtain ⟨b2, off2, cap2, he, hone⟩ := HRD.out.at_ hjn
          injection he with e1 e2 e3
          subst e1
          obtain ⟨q0, u3, q1, hin⟩ := hone
          obtain ⟨aa3, cc3, rfl, -, i3, i4, -⟩ := hin
          obtain ⟨y, hy⟩ : ∃ y, y = mm.rd.getD j rd0 := ⟨_, rfl⟩
          rw [← hy] at q0 q1 i3
          obtain ⟨ny, hny⟩ : ∃ n, n = y.2.length := ⟨_, rfl⟩
          obtain ⟨vy, hvy⟩ : ∃ v, v = y.1 := ⟨_, rfl⟩
          rw [← hny] at q1 i3
          rw [← hvy] at q0
          replace q0 := cell_below q0 (below_new1 wr (.cells #[.int .i64 mm.addr, .int .i64 mm.word, .bool mm.any, .slice (some ⟨b2, off2, none⟩) nr rc, .slice wa nw wc] 56))
          replace q1 := cell_below q1 (below_new1 wr (.cells #[.int .i64 mm.addr, .int .i64 mm.word, .bool mm.any, .slice (some ⟨b2, off2, none⟩) nr rc, .slice wa nw wc] 56))
          have HY := Lib.hid hy
          have HNY := Lib.hid hny
          have HVY := Lib.hid hvy
          have HJN := Lib.hid hjn
          clear hy hny hvy hjn e2 e3
          go_wp2
          all_goals first
            | (have HF : Hid (ans = false) := Lib.hid (HNO.out (by
                 have h0 : liR y = false := decide_eq_false (by have := HNY.out; have := HVY.out; omega)
                 unfold liM; rw [all_no rd0 HJN.out (by rw [← HY.out]; exact h0), Bool.and_false, Bool.false_and]))
               repeat rw [Exit.noGoto_ret]
               go_ret
               exact ⟨by rw [HF.out]; rfl, (HB0.out.alloc HB0.out.size _)⟩)
            | (have HT : Hid (liR y = true) := Lib.hid (decide_eq_true (by have := HNY.out; have := HVY.out; omega))
               go_round
               case rel =>
                 refine ⟨j + 1, by omega, by go_num, fun t ht => ?_⟩
                 rcases Nat.lt_or_ge t j with h | h
                 · exact HR2.out t h
                 · rw [show t = j by omega, ← HY.out]; exact HT.out
               case measure => simp [intOf]; omega)
        · have HRA : Hid (mm.rd.all liR = true) := Lib.hid (all_yes rd0 fun t ht => HR2.out t (by have := HNR.out; omega))
          go_wp2
          go_loop [6] (fun i => ∃ j : Nat, j ≤ nw ∧ i = .int .i64 j ∧ ∀ t, t < j → liW (mm.wr.getD t wr0) = true) (fun i => nw - (intOf i).toNat)
          case atStart => exact ⟨0, Nat.zero_le _, rfl, fun _ h => absurd h (by omega)⟩
          case round =>
            obtain ⟨j3, hj3, rfl, hrel⟩ := hrel
            have HR3 := Lib.hid hrel
            clear hrel
            by_cases hlt3 : (j3 : Int) < (nw : Int)
            · have hjn : j3 < mm.wr.length := by have := HNW.out; omega
              obtain ⟨b2, off2, cap2, he, hone⟩ := HWR.out.at_ hjn
              injection he with e1 e2 e3
              subst e1
              obtain ⟨q0, ⟨u3, q1, hin⟩, u4, q2, hin4⟩ := hone
              obtain ⟨aa3, cc3, rfl, -, i3, i4, -⟩ := hin
              obtain ⟨aa4, cc4, rfl, -, i5, i6, -⟩ := hin4
              obtain ⟨y, hy⟩ : ∃ y, y = mm.wr.getD j3 wr0 := ⟨_, rfl⟩
              rw [← hy] at q0 q1 q2 i3 i5
              obtain ⟨ny, hny⟩ : ∃ n, n = y.2.1.length := ⟨_, rfl⟩
              obtain ⟨my, hmy⟩ : ∃ n, n = y.2.2.length := ⟨_, rfl⟩
              rw [← hny] at q1 i3
              rw [← hmy] at q2 i5
              replace q1 := cell_below q1 (below_new1 wr (.cells #[.int .i64 mm.addr, .int .i64 mm.word, .bool mm.any, .slice ra nr rc, .slice (some ⟨b2, off2, none⟩) nw wc] 56))
              replace q2 := cell_below q2 (below_new1 wr (.cells #[.int .i64 mm.addr, .int .i64 mm.word, .bool mm.any, .slice ra nr rc, .slice (some ⟨b2, off2, none⟩) nw wc] 56))
              have HY := Lib.hid hy
              have HNY := Lib.hid hny
              have HMY := Lib.hid hmy
              have HJN := Lib.hid hjn
              clear hy hny hmy hjn e2 e3
              go_wp2
              all_goals first
                | (have HF : Hid (ans = false) := Lib.hid (HNO.out (by
                     have h0 : liW y = false := decide_eq_false (by have := HNY.out; have := HMY.out; omega)
                     unfold liM; rw [all_no wr0 HJN.out (by rw [← HY.out]; exact h0), Bool.and_false]))
                   repeat rw [Exit.noGoto_ret]
                   go_ret
                   exact ⟨by rw [HF.out]; rfl, (HB0.out.alloc HB0.out.size _)⟩)
                | (have HT : Hid (liW y = true) := Lib.hid (decide_eq_true (by have := HNY.out; have := HMY.out; omega))
                   go_round
                   case rel =>
                     refine ⟨j3 + 1, by omega, by go_num, fun t ht => ?_⟩
                     rcases Nat.lt_or_ge t j3 with h | h
                     · exact HR3.out t h
                     · rw [show t = j3 by omega, ← HY.out]; exact HT.out
                   case measure => simp [intOf]; omega)
            · have HWA : Hid (mm.wr.all liW = true) := Lib.hid (all_yes wr0 fun t ht => HR3.out t (by have := HNW.out; omega))
              have HM : Hid (liM mm = true) := Lib.hid (by unfold liM; rw [HMH.out, HRA.out, HWA.out]; rfl)
              go_wp2
              go_roundw
              case rel =>
                refine ⟨k + 1, by omega, by go_num, fun t ht => ?_, HB.out.alloc HB.out.size _⟩
                rcases Nat.lt_or_ge t k with h | h
                · exact HR.out t h
                · rw [show t = k by omega, ← HMM.out]; exact HM.out
              case measure => simp [intOf]; omega
    · have HF : Hid (ans = true) := Lib.hid (by
        obtain ⟨h1, h2, h3, h4, h5, h6, h7⟩ := HN.out
        rw [HA.out]; unfold lightN; rw [HLH.out, Bool.true_and, List.all_eq_true]
        intro x hx
        obtain ⟨j, hj, rfl⟩ := List.getElem_of_mem hx
        have := HR.out j (by omega)
        simpa [List.getD, hj] using this)
      have HBB := Lib.hid (HA1.out.trans (hB.mono HA1.out.size))
      clear hB
      go_wp2
      go_ret
      exact ⟨by rw [HF.out]; rfl, HBB.out⟩
end Go.Proofs.Ytgnimegdgphlmaa
