/-
  Netlists: the document's wide, Data, walked.
-/
import Derived.Test.YtlahecdpcpejpaaDoorNetA
import Derived.Test.YtlahecdpcpejpaaDoorOwnB
namespace Go.Proofs.YtlahecdpcpejpaaDoor
open Go.ChangeShapes Go.WideShapes Go.ChangeAt Go.RowKit
set_option linter.unusedVariables false
set_option linter.unusedSimpArgs false
attribute [local go_sem ↓] Go.wp_at_zero Go.wp_at_succ
/-- A memory's value. -/
def MemV (w : World) (v : Value) (x : MemD) : Prop := ∃ u1 u2, v = .agg #[.int .i64 x.addr, .int .i64 x.word, .bool x.any, u1, u2] ∧ Seq w 2 RdR rd0 u1 x.rd ∧ Seq w 3 WrR wr0 u2 x.wr
theorem MemV.below {w w' : World} {v : Value} {x : MemD} (h : MemV w v x) (hb : Below w.heap.size w w') : MemV w' v x := by
  obtain ⟨u1, u2, rfl, h1, h2⟩ := h
  exact ⟨u1, u2, rfl, h1.below stays_rd hb, h2.below stays_wr hb⟩
theorem MemR.val {w : World} {b o : Nat} {x : MemD} (h : MemR w b o x) : ∃ u1 u2, w.cell? ⟨b, o, none⟩ = some (.int .i64 x.addr) ∧ w.cell? ⟨b, o + 1, none⟩ = some (.int .i64 x.word) ∧ w.cell? ⟨b, o + 2, none⟩ = some (.bool x.any) ∧ w.cell? ⟨b, o + 3, none⟩ = some u1 ∧ w.cell? ⟨b, o + 4, none⟩ = some u2 ∧ MemV w (.agg #[.int .i64 x.addr, .int .i64 x.word, .bool x.any, u1, u2]) x := by
  obtain ⟨h1, h2, h3, ⟨u, h4, h5⟩, v, h6, h7⟩ := h
  exact ⟨u, v, h1, h2, h3, h4, h6, u, v, rfl, h5, h7⟩
theorem MemV.open_ {w : World} {v : Value} {x : MemD} (h : MemV w v x) : ∃ ra rc nr wa wc nw, v = .agg #[.int .i64 x.addr, .int .i64 x.word, .bool x.any, .slice ra nr rc, .slice wa nw wc] ∧ nr = x.rd.length ∧ nw = x.wr.length ∧ nr ≤ rc ∧ rc ≤ 9223372036854775807 ∧ nw ≤ wc ∧ wc ≤ 9223372036854775807 ∧
    Hid (Seq w 2 RdR rd0 (.slice ra nr rc) x.rd) ∧ Hid (Seq w 3 WrR wr0 (.slice wa nw wc) x.wr) := by
  obtain ⟨u1, u2, rfl, h1, h2⟩ := h
  obtain ⟨ra, rc, rfl, r1, r2⟩ := h1.form
  obtain ⟨wa, wc, rfl, w1, w2⟩ := h2.form
  exact ⟨ra, rc, _, wa, wc, _, rfl, rfl, rfl, r1, r2, w1, w2, Lib.hid h1, Lib.hid h2⟩
def MBox (W : World) (g : Nat) (x : MemD) (u1 u2 : Value) : Prop := Blk W g 53 #[.int .i64 x.addr, .int .i64 x.word, .bool x.any, u1, u2]
theorem MBox.later {w W : World} {g : Nat} {x : MemD} {u1 u2 : Value} (h : MBox w g x u1 u2) (hb : Below w.heap.size w W) : MBox W g x u1 u2 := Blk.below h hb h.lt
section
variable {W : World} {g : Nat} {x : MemD} {u1 u2 : Value} (h : MBox W g x u1 u2)
include h
theorem MBox.c0 : W.cell? ⟨g, 0, none⟩ = some (.int .i64 x.addr) := h.cell 0
theorem MBox.c1 : W.cell? ⟨g, 1, none⟩ = some (.int .i64 x.word) := h.cell 1
theorem MBox.c3 : W.cell? ⟨g, 3, none⟩ = some u1 := h.cell 3
theorem MBox.c4 : W.cell? ⟨g, 4, none⟩ = some u2 := h.cell 4
end
theorem below_d {w wr : World} {n : Nat} {B : Nat} (h : Below B w wr) : Below B w (wr.drewN n) := below_drewN h n
set_option maxHeartbeats 4000000 in
set_option maxRecDepth 100000 in
theorem r05_wide {w : World} {x : MemD} {v : Value} (h : MemV w v x) (hl : liMH x = true) : Calls Tryd.prog 38 #[v] w fun e w' => e = .returned (.bool (wideN x)) ∧ Below w.heap.size w w' := by
  obtain ⟨ans, hans⟩ : ∃ b, b = wideN x := ⟨_, rfl⟩
  rw [← hans]
  obtain ⟨ra, rc, nr, wa, wc, nw, rfl, hnr, hnw, r1, r2, w1, w2, HR, HW⟩ := h.open_
  obtain ⟨l1, l2, l3⟩ := of_decide_eq_true hl
  have r3 : nr ≤ 6 := by omega
  have w3 : nw ≤ 6 := by omega
  have HA := Lib.hid hans
  have HNR := Lib.hid hnr
  have HNW := Lib.hid hnw
  obtain ⟨wb, hwb⟩ : ∃ wb, wb = w.alloc (.cells #[.int .i64 x.addr, .int .i64 x.word, .bool x.any, .slice ra nr rc, .slice wa nw wc] 53) := ⟨_, rfl⟩
  obtain ⟨bx, hbx⟩ : ∃ bx, bx = w.heap.size := ⟨_, rfl⟩
  have HB1 : Hid (Below w.heap.size w wb) := Lib.hid (by rw [hwb]; exact below_new1 w _)
  have HBX : Hid (MBox wb bx x (.slice ra nr rc) (.slice wa nw wc)) := Lib.hid (by rw [hwb, hbx]; exact Blk.new w _ _)
  have HW1 := Lib.hid hwb
  have HBE := Lib.hid hbx
  clear hans hnr hnw h hl l1 l2 l3 hwb hbx
  go_enter Tryd.func38, Tryd.ntmps38
  go_wp2
  all_goals first
    | (have HF : Hid (ans = true) := Lib.hid (by
         have : widH x = true := decide_eq_true (by omega)
         rw [HA.out]; unfold wideN; rw [this, Bool.true_or, Bool.true_or])
       go_ret
       exact ⟨by rw [HF.out]; rfl, below_new1 w _⟩)
    | skip
  rw [← HW1.out, ← HBE.out]
  have HH : Hid (widH x = false) := Lib.hid (decide_eq_false (by omega))
  go_loopw [3] (fun i wr => ∃ k : Nat, k ≤ nr ∧ i = .int .i64 k ∧ (∀ j, j < k → widR x (x.rd.getD j rd0) = false) ∧ Below wb.heap.size wb wr) (fun i _ => nr - (intOf i).toNat)
  case atStart => exact ⟨0, Nat.zero_le _, rfl, fun _ h => absurd h (by omega), Below.refl _ _⟩
  case round =>
    obtain ⟨k, hk, rfl, hrel, hB⟩ := hrel
    have HRL := Lib.hid hrel
    have HBB := Lib.hid hB
    have c0 := (HBX.out.later hB).c0
    have c3 := (HBX.out.later hB).c3
    have HB2 := Lib.hid (HB1.out.trans (hB.mono HB1.out.size))
    clear hrel hB
    by_cases hlt : (k : Int) < (nr : Int)
    · have hkn : k < x.rd.length := by have := HNR.out; omega
      obtain ⟨b, off, cap', he, hone⟩ := HR.out.at_ hkn
      injection he with e1 e2 e3
      subst e1
      obtain ⟨-, u3, q1, hin⟩ := hone
      obtain ⟨aa3, cc3, rfl, -, i3, i4, -⟩ := hin
      obtain ⟨y, hy⟩ : ∃ y, y = x.rd.getD k rd0 := ⟨_, rfl⟩
      rw [← hy] at q1 i3
      obtain ⟨ny, hny⟩ : ∃ n, n = y.2.length := ⟨_, rfl⟩
      rw [← hny] at q1 i3
      replace q1 := cell_below q1 HB2.out
      unfold maxLen at i4
      have HY := Lib.hid hy
      have HNY := Lib.hid hny
      have HKN := Lib.hid hkn
      clear hy hny hkn e2 e3
      by_cases hne : (ny : Int) = x.addr
      · have hb : ((ny : Int) != x.addr) = false := by rw [bne_eq_false_iff_eq]; exact hne
        have HT : Hid (widR x y = false) := Lib.hid (decide_eq_false (by rw [← HNY.out]; simpa using hne))
        clear hne
        go_wp2
        go_quiet (fail)
        go_wp2
        go_roundw
        case rel => exact ⟨k + 1, by omega, by go_num, snoc_no HRL.out (by rw [← HY.out]; exact HT.out), below_d HBB.out⟩
        case measure => simp [intOf]; omega
      · have hb : ((ny : Int) != x.addr) = true := by rw [bne_iff_ne]; exact hne
        have HF : Hid (ans = true) := Lib.hid (by
          have : widR x y = true := decide_eq_true (by rw [← HNY.out]; exact hne)
          rw [HA.out]; unfold wideN; rw [any_at rd0 HKN.out (by rw [← HY.out]; exact this), Bool.or_true, Bool.true_or])
        clear hne
        go_wp2
        go_quiet (fail)
        go_wp2
        repeat rw [Exit.noGoto_ret]
        go_ret
        exact ⟨by rw [HF.out]; rfl, below_d HB2.out⟩
    · have HRA : Hid (x.rd.any (widR x) = false) := Lib.hid (any_non rd0 (n := k) (by have := HNR.out; omega) HRL.out)
      obtain ⟨wo, rfl⟩ : ∃ wo : World, wo = wr := ⟨_, rfl⟩
      go_wp2
      go_loopw [4] (fun i wr => ∃ k : Nat, k ≤ nw ∧ i = .int .i64 k ∧ (∀ j, j < k → widW x (x.wr.getD j wr0) = false) ∧ Below wb.heap.size wb wr) (fun i _ => nw - (intOf i).toNat)
      case atStart => exact ⟨0, Nat.zero_le _, rfl, fun _ h => absurd h (by omega), HBB.out⟩
      case round =>
        obtain ⟨k2, hk2, rfl, hrel, hB⟩ := hrel
        have HRL2 := Lib.hid hrel
        have HBB2 := Lib.hid hB
        have d0 := (HBX.out.later hB).c0
        have d1 := (HBX.out.later hB).c1
        have d4 := (HBX.out.later hB).c4
        have HB3 := Lib.hid (HB1.out.trans (hB.mono HB1.out.size))
        clear hrel hB
        by_cases hlt2 : (k2 : Int) < (nw : Int)
        · have hkn : k2 < x.wr.length := by have := HNW.out; omega
          obtain ⟨b, off, cap', he, hone⟩ := HW.out.at_ hkn
          injection he with e1 e2 e3
          subst e1
          obtain ⟨-, ⟨u3, q1, hin⟩, u4, q2, hin4⟩ := hone
          obtain ⟨aa3, cc3, rfl, -, i3, i4, -⟩ := hin
          obtain ⟨aa4, cc4, rfl, -, i5, i6, -⟩ := hin4
          obtain ⟨y, hy⟩ : ∃ y, y = x.wr.getD k2 wr0 := ⟨_, rfl⟩
          rw [← hy] at q1 q2 i3 i5
          obtain ⟨ny, hny⟩ : ∃ n, n = y.2.1.length := ⟨_, rfl⟩
          obtain ⟨my, hmy⟩ : ∃ n, n = y.2.2.length := ⟨_, rfl⟩
          rw [← hny] at q1 i3
          rw [← hmy] at q2 i5
          replace q1 := cell_below q1 HB3.out
          replace q2 := cell_below q2 HB3.out
          unfold maxLen at i4 i6
          have HY := Lib.hid hy
          have HNY := Lib.hid hny
          have HMY := Lib.hid hmy
          have HKN := Lib.hid hkn
          clear hy hny hmy hkn e2 e3
          have HF : Hid (widW x y = true → ans = true) := Lib.hid (fun h => by
            rw [HA.out]; unfold wideN; rw [any_at wr0 HKN.out (by rw [← HY.out]; exact h), Bool.or_true])
          by_cases hne : (ny : Int) = x.addr
          · have hb : ((ny : Int) != x.addr) = false := by rw [bne_eq_false_iff_eq]; exact hne
            by_cases hne2 : (my : Int) = x.word
            · have hb2 : ((my : Int) != x.word) = false := by rw [bne_eq_false_iff_eq]; exact hne2
              have HT : Hid (widW x y = false) := Lib.hid (decide_eq_false (by rw [← HNY.out, ← HMY.out]; omega))
              clear hne hne2
              go_wp2
              go_quiet (fail)
              go_wp2
              go_roundw
              case rel => exact ⟨k2 + 1, by omega, by go_num, snoc_no HRL2.out (by rw [← HY.out]; exact HT.out), below_d HBB2.out⟩
              case measure => simp [intOf]; omega
            · have hb2 : ((my : Int) != x.word) = true := by rw [bne_iff_ne]; exact hne2
              replace HF : Hid (ans = true) := Lib.hid (HF.out (decide_eq_true (by rw [← HNY.out, ← HMY.out]; exact .inr hne2)))
              clear hne hne2
              go_wp2
              go_quiet (fail)
              go_wp2
              repeat rw [Exit.noGoto_ret]
              go_ret
              exact ⟨by rw [HF.out]; rfl, below_d HB3.out⟩
          · have hb : ((ny : Int) != x.addr) = true := by rw [bne_iff_ne]; exact hne
            replace HF : Hid (ans = true) := Lib.hid (HF.out (decide_eq_true (by rw [← HNY.out, ← HMY.out]; exact .inl hne)))
            clear hne
            go_wp2
            go_quiet (fail)
            go_wp2
            repeat rw [Exit.noGoto_ret]
            go_ret
            exact ⟨by rw [HF.out]; rfl, below_d HB3.out⟩
        · have HF : Hid (ans = false) := Lib.hid (by
            rw [HA.out]; unfold wideN
            rw [HH.out, HRA.out, any_non wr0 (n := k2) (by have := HNW.out; omega) HRL2.out]; rfl)
          go_wp2
          go_ret
          exact ⟨by rw [HF.out]; rfl, HB3.out⟩
end Go.Proofs.YtlahecdpcpejpaaDoor
/-
  Netlists: the document's Data, walked.
-/
namespace Go.Proofs.YtlahecdpcpejpaaDoor
open Go.ChangeShapes Go.WideShapes Go.ChangeAt Go.RowKit
set_option linter.unusedVariables false
set_option linter.unusedSimpArgs false
attribute [local go_sem ↓] Go.wp_at_zero Go.wp_at_succ
/-- A list of the call's own is handed back. -/
def RetI (w : World) (xs : List Int) (e : Ending) (w' : World) : Prop := ∃ u, e = .returned u ∧ OwnI w w' u xs
def dat (v : Int) (n : Nat) : List Int := (List.range n).map fun (i : Nat) => v + (i : Int)
theorem dat_succ (v : Int) (n : Nat) : dat v (n + 1) = dat v n ++ [v + (n : Int)] := by unfold dat; rw [List.range_succ, List.map_append]; rfl
theorem dat_len (v : Int) (n : Nat) : (dat v n).length = n := by simp [dat]
theorem dataM_eq (v word : Int) : dataM v word = dat v word.toNat := rfl
set_option maxHeartbeats 4000000 in
set_option maxRecDepth 100000 in
theorem r05_Data {w : World} {x : MemD} {v : Value} (h : MemV w v x) (hl : liMH x = true) {p : Nat} (hp : p < x.rd.length) (hb : -1099511627776 ≤ (x.rd.getD p rd0).1 ∧ (x.rd.getD p rd0).1 ≤ 1099511627776) :
    Calls Tryd.prog 54 #[v, .int .i64 p] w (RetI w (dataM (x.rd.getD p rd0).1 x.word)) := by
  obtain ⟨ra, rc, nr, wa, wc, nw, rfl, hnr, hnw, r1, r2, w1, w2, HR, HW⟩ := h.open_
  obtain ⟨l1, l2, l3⟩ := of_decide_eq_true hl
  have hp1 : (p : Int) < (nr : Int) := by omega
  have hp6 : (p : Int) ≤ 6 := by omega
  have hp0 : decide ((p : Int) < 0) = false := decide_eq_false (by omega)
  have hpn : decide (nr ≤ p) = false := decide_eq_false (by omega)
  obtain ⟨b, off, cap', he, hone⟩ := HR.out.at_ hp
  injection he with e1 e2 e3
  subst e1
  obtain ⟨q0, -⟩ := hone
  obtain ⟨y, hy⟩ : ∃ y, y = (x.rd.getD p rd0).1 := ⟨_, rfl⟩
  rw [← hy] at q0 hb ⊢
  obtain ⟨hb1, hb2⟩ := hb
  obtain ⟨wd, hwd⟩ : ∃ wd, wd = x.word := ⟨_, rfl⟩
  rw [← hwd] at l3
  rw [← hwd, dataM_eq]
  obtain ⟨wb, hwb⟩ : ∃ wb, wb = w.alloc (.cells #[.int .i64 x.addr, .int .i64 wd, .bool x.any, .slice (some ⟨b, off, none⟩) nr rc, .slice wa nw wc] 53) := ⟨_, rfl⟩
  obtain ⟨bx, hbx⟩ : ∃ bx, bx = w.heap.size := ⟨_, rfl⟩
  have HB1 : Hid (Below w.heap.size w wb) := Lib.hid (by rw [hwb]; exact below_new1 w _)
  have HBX : Hid (MBox wb bx x (.slice (some ⟨b, off, none⟩) nr rc) (.slice wa nw wc)) := Lib.hid (by rw [hwb, hbx, hwd]; exact Blk.new w _ _)
  have HWD := Lib.hid hwd
  have HQ0 := Lib.hid q0
  have HW1 := Lib.hid hwb
  have HBE := Lib.hid hbx
  clear hnr hnw h hl l1 l2 hwb hbx e2 e3 hp q0 hy hwd
  go_enter Tryd.func54, Tryd.ntmps54
  go_wp2
  rw [← HW1.out, ← HBE.out]
  go_loopw [5, 6] (fun u i wr => ∃ k : Nat, k ≤ wd.toNat ∧ i = .int .i64 k ∧ OwnI wb wr u (dat y k)) (fun _ i _ => wd.toNat - (intOf i).toNat)
  case atStart => exact ⟨0, Nat.zero_le _, rfl, OwnI.start wb⟩
  case round =>
    obtain ⟨k, hk, rfl, hO⟩ := hrel
    have c1 := (HBX.out.later hO.2.1).c1
    have c3 := (HBX.out.later hO.2.1).c3
    rw [← HWD.out] at c1
    have q0 := cell_below HQ0.out (HB1.out.trans (hO.2.1.mono HB1.out.size))
    have HO := Lib.hid hO
    clear hO
    by_cases hlt : (k : Int) < wd
    · have hk9 : (k : Int) ≤ 100 := by omega
      have HB9 : Hid ((dat y k).length + 1 ≤ 1099511627776) := Lib.hid (by rw [dat_len]; omega)
      go_wp2_with (at_builtin; refine wpList_I (w := wb) rfl _ _ rfl _ (dat y k) rfl (some ⟨wr.heap.size, 0, none⟩) 1 1 [y + (k : Int)] rfl rfl HB9.out (HO.out.below (below_new1 wr (.cells #[.int .i64 (y + (k : Int))] 3))) (Src.one (heap_new1 _ _)) ?_; intro v4 w4 h4; have H4 := Lib.hid h4; clear h4)
      go_roundw
      case rel => exact ⟨k + 1, by omega, by go_num, by rw [dat_succ]; exact H4.out⟩
      case measure => simp [intOf]; omega
    · obtain rfl : k = wd.toNat := by omega
      have HF : Hid (RetI w (dat y wd.toNat) (.returned u5) wr) := Lib.hid ⟨_, rfl, HO.out.from_ HB1.out⟩
      go_wp2
      go_ret
      exact HF.out
end Go.Proofs.YtlahecdpcpejpaaDoor
/-
  Netlists: the document's Defined, walked.
-/
namespace Go.Proofs.YtlahecdpcpejpaaDoor
open Go.ChangeShapes Go.WideShapes Go.ChangeAt Go.RowKit
set_option linter.unusedVariables false
set_option linter.unusedSimpArgs false
attribute [local go_sem ↓] Go.wp_at_zero Go.wp_at_succ
theorem take_succ_D {α : Type} {l : List α} {k : Nat} (d : α) (h : k < l.length) : l.take (k + 1) = l.take k ++ [l.getD k d] := by
  rw [List.take_add_one, List.getElem?_eq_getElem h]
  simp [List.getD, h]
theorem flatMap_take {α β : Type} {l : List α} {k : Nat} (d : α) (f : α → List β) (h : k < l.length) : (l.take (k + 1)).flatMap f = (l.take k).flatMap f ++ f (l.getD k d) := by
  rw [take_succ_D d h, List.flatMap_append]; simp
theorem map_take_D {α β : Type} {l : List α} {k : Nat} (d : α) (f : α → β) (h : k < l.length) : (l.take (k + 1)).map f = (l.take k).map f ++ [f (l.getD k d)] := by
  rw [take_succ_D d h, List.map_append]; rfl
theorem ints_src {w : World} {A : Option Addr} {n cap : Nat} {xs : List Int} (h : Ints w (.slice A n cap) xs) : Src w A 1 n (xs.map iv) := by
  obtain ⟨a, c, e, -, -, -, h3⟩ := h
  injection e with e1 e2 e3
  subst e1 e2
  refine ⟨by simp, fun h0 => ?_⟩
  have hne : xs ≠ [] := fun e => by rw [e] at h0; simp at h0
  obtain ⟨b, off, rfl, hc⟩ := h3.resolve_left hne
  refine ⟨b, off, rfl, fun j u hu => ?_⟩
  have hj : j < xs.length := by have := (List.getElem?_eq_some_iff.1 hu).1; simpa using this
  rw [hc j hj]
  simp [hj, iv] at hu
  rw [← hu]; simp [List.getD, hj]
/-- The net's memories are such as may be gone through. -/
def LiMs (d : NetD) : Prop := ∀ k, k < d.mems.length → liM (d.mems.getD k mem0) = true
theorem lightN_iff {d : NetD} (h : lightN d = true) : liH d = true ∧ LiMs d := by
  unfold lightN at h
  rw [Bool.and_eq_true] at h
  refine ⟨h.1, fun k hk => ?_⟩
  have := List.all_eq_true.1 h.2 _ (List.getElem_mem hk)
  simpa [List.getD, hk] using this
theorem liM_parts {m : MemD} (h : liM m = true) : liMH m = true ∧ (∀ k, k < m.rd.length → liR (m.rd.getD k rd0) = true) ∧ ∀ k, k < m.wr.length → liW (m.wr.getD k wr0) = true := by
  unfold liM at h
  rw [Bool.and_eq_true, Bool.and_eq_true] at h
  refine ⟨h.1.1, fun k hk => ?_, fun k hk => ?_⟩
  · have := List.all_eq_true.1 h.1.2 _ (List.getElem_mem hk)
    simpa [List.getD, hk] using this
  · have := List.all_eq_true.1 h.2 _ (List.getElem_mem hk)
    simpa [List.getD, hk] using this
set_option maxHeartbeats 8000000 in
set_option maxRecDepth 100000 in
theorem r05_Defined {w : World} {d : NetD} {vi vl vo vb vc vm va : Value} (h : NetP w d vi vl vo vb vc vm va) (hl : liH d = true) (hm : LiMs d) :
    Calls Tryd.prog 53 #[netV d vi vl vo vb vc vm va] w (RetI w (definedN d)) := by
  obtain ⟨ai, ci, ni, al, cl, nl, ao, co, no, ab, cb, nb, ac, cc, nc, am, cm, nm, aa, ca, na, rfl, rfl, rfl, rfl, rfl, rfl, rfl, HN, HC⟩ := h.open_ hl
  obtain ⟨⟨i1, i2, i3⟩, ⟨l1, l2, l3⟩, ⟨o1, o2, o3⟩, ⟨b1, b2, b3⟩, ⟨c1, c2, c3⟩, ⟨m1, m2, m3⟩, ⟨a1, a2, a3⟩⟩ := HC
  unfold netV
  obtain ⟨wb, hwb⟩ : ∃ wb, wb = w.alloc (.cells #[.int .i64 d.vars, .slice ai ni ci, .slice al nl cl, .slice ao no co, .slice ab nb cb, .slice ac nc cc, .slice am nm cm, .slice aa na ca] 28) := ⟨_, rfl⟩
  obtain ⟨bx, hbx⟩ : ∃ bx, bx = w.heap.size := ⟨_, rfl⟩
  have HB1 : Hid (Below w.heap.size w wb) := Lib.hid (by rw [hwb]; exact below_new1 w _)
  have HBX : Hid (NBox wb bx d (.slice ai ni ci) (.slice al nl cl) (.slice ao no co) (.slice ab nb cb) (.slice ac nc cc) (.slice am nm cm) (.slice aa na ca)) := Lib.hid (by rw [hwb, hbx]; exact NBox.new w _ _ _ _ _ _ _ _)
  have HP := Lib.hid (h.below HB1.out)
  have HM := Lib.hid hm
  have hbs : w.heap.size + 1 = wb.heap.size := by rw [hwb]; simp
  have HW1 := Lib.hid hwb
  have HBE := Lib.hid hbx
  have HNEW : Hid (OwnI wb (wb.alloc (.cells #[] 3)) (.slice (some ⟨w.heap.size + 1, 0, none⟩) 0 0) []) := Lib.hid (by rw [hbs]; exact OwnI.new (heap_new1 wb _) (below_new1 wb _) (Nat.le_refl _))
  have HSRC := Lib.hid ((ints_src (HP.out.inp)).below (below_new1 wb (.cells #[] 3)))
  rw [HW1.out] at HNEW HSRC
  have hII : d.inp.length = ni := HN.out.inp.symm
  have HII := Lib.hid hII
  clear h hl hm hwb hbx hII hbs
  go_enter Tryd.func53, Tryd.ntmps53
  go_wp2_with (at_builtin; refine wpList_I rfl _ _ rfl _ [] rfl ai ni ci d.inp rfl HII.out (by simp; omega) HNEW.out HSRC.out ?_; intro v3 w3 h3; have H3 := Lib.hid h3; clear h3)
  rw [← HW1.out] at H3
  rw [List.nil_append] at H3
  rw [← HBE.out]
  clear HNEW HSRC
  go_loopw [3, 4] (fun u i wr => ∃ k : Nat, k ≤ nl ∧ i = .int .i64 k ∧ OwnI wb wr u (d.inp ++ (d.lat.take k).map (·.1))) (fun _ i _ => nl - (intOf i).toNat)
  case atStart => exact ⟨0, Nat.zero_le _, rfl, by simpa using H3.out⟩
  case round =>
    obtain ⟨k, hk, rfl, hO⟩ := hrel
    have c2 := (HBX.out.later hO.2.1).c2
    have hP := HP.out.below hO.2.1
    have HO := Lib.hid hO
    by_cases hlt : (k : Int) < (nl : Int)
    · have hkn : k < d.lat.length := by have := HN.out.lat; omega
      obtain ⟨b, off, cap', he, hone⟩ := hP.lat.at_ hkn
      injection he with e1 e2 e3
      subst e1
      obtain ⟨q0, -, -⟩ := hone
      have hrow := map_take_D (f := fun x : Tri => x.1) tri0 hkn
      obtain ⟨y, hy⟩ : ∃ y, y = (d.lat.getD k tri0).1 := ⟨_, rfl⟩
      rw [← hy] at q0 hrow
      have HROW := Lib.hid hrow
      have HBD : Hid ((d.inp ++ (d.lat.take k).map (·.1)).length + 1 ≤ 1099511627776) := Lib.hid (by have := HN.out.inp; simp; omega)
      clear hrow hy e2 e3 hkn hP hO
      go_wp2_with (at_builtin; refine wpList_I (w := wb) rfl _ _ rfl _ (d.inp ++ (d.lat.take k).map (·.1)) rfl (some ⟨wr.heap.size, 0, none⟩) 1 1 [y] rfl rfl HBD.out (HO.out.below (below_new1 wr (.cells #[.int .i64 y] 3))) (Src.one (heap_new1 _ _)) ?_; intro v4 w4 h4; have H4 := Lib.hid h4; clear h4)
      go_roundw
      case rel => exact ⟨k + 1, by omega, by go_num, by rw [HROW.out, ← List.append_assoc]; exact H4.out⟩
      case measure => simp [intOf]; omega
    · obtain rfl : k = nl := by omega
      have hall : d.inp ++ (d.lat.take k).map (·.1) = d.inp ++ d.lat.map (·.1) := by rw [List.take_of_length_le (by have := HN.out.lat; omega)]
      rw [hall] at HO
      obtain ⟨L0, hL0⟩ : ∃ L, L = d.inp ++ d.lat.map (·.1) := ⟨_, rfl⟩
      rw [← hL0] at HO
      have HL0 := Lib.hid hL0
      have HLL : Hid (L0.length ≤ 4200) := Lib.hid (by have := HN.out.inp; have := HN.out.lat; rw [hL0]; simp; omega)
      obtain ⟨wo, rfl⟩ : ∃ wo : World, wo = wr := ⟨_, rfl⟩
      clear hall hL0 hO hP
      go_wp2
      clear c2
      go_loopw [3, 5, 6] (fun u i _ wr => ∃ k : Nat, ∃ xs, k ≤ nm ∧ i = .int .i64 k ∧ xs = L0 ++ (d.mems.take k).flatMap memDef ∧ xs.length ≤ 4200 + 600 * k ∧ OwnI wb wr u xs) (fun _ i _ _ => nm - (intOf i).toNat)
      case atStart => exact ⟨0, _, Nat.zero_le _, rfl, rfl, by have := HLL.out; simp; omega, by simpa using HO.out⟩
      case round =>
        obtain ⟨k, xs, hk2, rfl, hxs, hxl, hO⟩ := hrel
        have c6 := (HBX.out.later hO.2.1).c6
        have HO := Lib.hid hO
        have HXS := Lib.hid hxs
        clear hO hxs
        by_cases hlt2 : (k : Int) < (nm : Int)
        · have hkn : k < d.mems.length := by have := HN.out.mems; omega
          obtain ⟨b, off, cap', he, hmem⟩ := HP.out.mems.at_ hkn
          injection he with e1 e2 e3
          subst e1
          have hfm := flatMap_take mem0 memDef hkn
          have hlm := liM_parts (HM.out k hkn)
          obtain ⟨mm, hmm⟩ : ∃ mm, mm = d.mems.getD k mem0 := ⟨_, rfl⟩
          rw [← hmm] at hmem hfm hlm
          obtain ⟨ra, rc, nr, wa, wc, nw, z3, z4, hnr, hnw, r1, r2, q1, q2⟩ := mem_form hmem
          obtain ⟨u1, u2, y0, y1, y2, y3, y4, hmv⟩ := hmem.val
          obtain rfl : .slice ra nr rc = u1 := by rw [y3] at z3; injection z3 with z3; exact z3.symm
          obtain rfl : .slice wa nw wc = u2 := by rw [y4] at z4; injection z4 with z4; exact z4.symm
          unfold maxLen at r2 q2
          have HFM := Lib.hid hfm
          have HLM := Lib.hid hlm
          have HNR := Lib.hid hnr
          have HMV := Lib.hid hmv
          have hr6 : nr ≤ 6 := by have := of_decide_eq_true hlm.1; omega
          have HY := Lib.hid (And.intro y0 (And.intro y1 (And.intro y2 (And.intro y3 y4))))
          have HHX := Lib.hid hmm
          have HC6 := Lib.hid c6
          obtain ⟨wp, rfl⟩ : ∃ wp : World, wp = wr := ⟨_, rfl⟩
          have d0 := cell_below y0 HO.out.2.1
          have d3 := cell_below y3 HO.out.2.1
          clear hfm hlm hmm hnr hnw hmv hmem e2 e3 z3 z4 y0 y1 y2 y3 y4 hkn
          go_wp2
          go_loopw [3, 6] (fun u i wr => ∃ j : Nat, ∃ ys, j ≤ nr ∧ i = .int .i64 j ∧ ys = (mm.rd.take j).flatMap (fun r => dataM r.1 mm.word) ∧ ys.length ≤ 100 * j ∧ OwnI wb wr u (xs ++ ys)) (fun _ i _ => nr - (intOf i).toNat)
          case atStart => exact ⟨0, _, Nat.zero_le _, rfl, rfl, by simp, by simpa using HO.out⟩
          case round =>
            obtain ⟨j, ys, hj, rfl, hys, hyl, hO2⟩ := hrel
            have hB2 := hO2.2.1
            have c6 := (HBX.out.later hO2.2.1).c6
            obtain ⟨y0, y1, y2, y3, y4⟩ := HY.out
            replace y0 := cell_below y0 hB2
            replace y1 := cell_below y1 hB2
            replace y2 := cell_below y2 hB2
            replace y3 := cell_below y3 hB2
            replace y4 := cell_below y4 hB2
            have HO2 := Lib.hid hO2
            have HBB := Lib.hid hB2
            have HYS := Lib.hid hys
            by_cases hlt3 : (j : Int) < (nr : Int)
            · have hjn : j < mm.rd.length := by have := HNR.out; omega
              have hlr := of_decide_eq_true (HLM.out.2.1 j hjn)
              have hd := r05_Data (HMV.out.below hB2) HLM.out.1 hjn ⟨hlr.2.2, hlr.2.1⟩
              have hfj := flatMap_take rd0 (fun r : RdD => dataM r.1 mm.word) hjn
              obtain ⟨zs, hzs⟩ : ∃ zs, zs = dataM (mm.rd.getD j rd0).1 mm.word := ⟨_, rfl⟩
              rw [← hzs] at hd hfj
              obtain ⟨nz, hnz⟩ : ∃ nz, nz = zs.length := ⟨_, rfl⟩
              have hz9 : nz ≤ 100 := by rw [hnz, hzs, dataM_eq, dat_len]; have := of_decide_eq_true HLM.out.1; omega
              have HD := Lib.hid hd
              have HFJ := Lib.hid hfj
              have HNZ := Lib.hid hnz
              have HBD : Hid ((xs ++ ys).length + nz ≤ 1099511627776) := Lib.hid (by rw [List.length_append]; omega)
              clear hO2 hB2 hys hd hfj hnz hzs hjn hlr
              go_wp2_with (first
                | (go_at_call 54; refine HD.out.mono ?_; rintro e w5 ⟨u5, rfl, ho5⟩; obtain ⟨A5, cc5, rfl, -, -⟩ := ho5.form; have HO5 := Lib.hid ho5; rw [← HNZ.out] at HO5 ⊢; clear ho5)
                | (at_builtin; refine wpList_I (w := wb) rfl _ _ rfl _ (xs ++ ys) rfl A5 nz cc5 zs rfl HNZ.out.symm HBD.out (HO2.out.below HO5.out.2.1) (by have h := ints_src HO5.out.ints; exact h) ?_; intro v4 w4 h4; have H4 := Lib.hid h4; clear h4))
              go_roundw
              case rel => exact ⟨j + 1, ys ++ zs, by omega, by go_num, by rw [HFJ.out, ← HYS.out], by rw [List.length_append, ← HNZ.out]; omega, by rw [← List.append_assoc]; exact H4.out⟩
              case measure => simp [intOf]; omega
            · obtain rfl : j = nr := by omega
              have hall : xs ++ ys = L0 ++ (d.mems.take (k + 1)).flatMap memDef := by
                rw [HFM.out, ← List.append_assoc, ← HXS.out, hys]
                unfold memDef
                rw [List.take_of_length_le (l := mm.rd) (by have := HNR.out; omega)]
              have HALL := Lib.hid hall
              have hyl6 : ys.length ≤ 600 := by omega
              clear hall hO2 hB2 hys
              go_wp2
              go_roundw
              case rel => exact ⟨k + 1, xs ++ ys, by omega, by go_num, HALL.out, by rw [List.length_append]; omega, HO2.out⟩
              case measure => simp [intOf]; omega
        · obtain rfl : k = nm := by omega
          have hall : xs = L0 ++ d.mems.flatMap memDef := by rw [HXS.out, List.take_of_length_le (by have := HN.out.mems; omega)]
          have HALL := Lib.hid hall
          obtain ⟨wo2, rfl⟩ : ∃ wo : World, wo = wr := ⟨_, rfl⟩
          have hx78 : xs.length ≤ 7800 := by omega
          clear hall
          go_wp2
          clear c6
          go_loopw [3, 7] (fun u i wr => ∃ k : Nat, k ≤ na ∧ i = .int .i64 k ∧ OwnI wb wr u (xs ++ (d.ands.take k).map (·.1))) (fun _ i _ => na - (intOf i).toNat)
          case atStart => exact ⟨0, Nat.zero_le _, rfl, by simpa using HO.out⟩
          case round =>
            obtain ⟨k2, hk2, rfl, hO⟩ := hrel
            have c7 := (HBX.out.later hO.2.1).c7
            have hP := HP.out.below hO.2.1
            have HO7 := Lib.hid hO
            by_cases hlt : (k2 : Int) < (na : Int)
            · have hkn : k2 < d.ands.length := by have := HN.out.ands; omega
              obtain ⟨b, off, cap', he, hone⟩ := hP.ands.at_ hkn
              injection he with e1 e2 e3
              subst e1
              obtain ⟨q0, -, -⟩ := hone
              have hrow := map_take_D (f := fun x : Tri => x.1) tri0 hkn
              obtain ⟨y, hy⟩ : ∃ y, y = (d.ands.getD k2 tri0).1 := ⟨_, rfl⟩
              rw [← hy] at q0 hrow
              have HROW := Lib.hid hrow
              have HBD : Hid ((xs ++ (d.ands.take k2).map (·.1)).length + 1 ≤ 1099511627776) := Lib.hid (by simp; omega)
              clear hrow hy e2 e3 hkn hP hO
              go_wp2_with (at_builtin; refine wpList_I (w := wb) rfl _ _ rfl _ (xs ++ (d.ands.take k2).map (·.1)) rfl (some ⟨wr.heap.size, 0, none⟩) 1 1 [y] rfl rfl HBD.out (HO7.out.below (below_new1 wr (.cells #[.int .i64 y] 3))) (Src.one (heap_new1 _ _)) ?_; intro v4 w4 h4; have H4 := Lib.hid h4; clear h4)
              go_roundw
              case rel => exact ⟨k2 + 1, by omega, by go_num, by rw [HROW.out, ← List.append_assoc]; exact H4.out⟩
              case measure => simp [intOf]; omega
            · obtain rfl : k2 = na := by omega
              have hend : xs ++ (d.ands.take k2).map (·.1) = definedN d := by
                rw [List.take_of_length_le (by have := HN.out.ands; omega), HALL.out, HL0.out]; rfl
              rw [hend] at HO7
              have HF : Hid (RetI w (definedN d) (.returned u3) wr) := Lib.hid ⟨_, rfl, HO7.out.from_ HB1.out⟩
              clear hend hO hP
              go_wp2
              go_ret
              exact HF.out
end Go.Proofs.YtlahecdpcpejpaaDoor
