/-
  Package net: wide, Data, walked.
-/
import Derived.Test.YtgnimegdgphlmaaNetK
namespace Go.Proofs.Ytgnimegdgphlmaa
open Go.ChangeShapes Go.WideShapes Go.ChangeAt Go.RowKit
set_option linter.unusedVariables false
set_option linter.unusedSimpArgs false
attribute [local go_sem ↓] Go.wp_at_zero Go.wp_at_succ
theorem triL_stays (w w' : World) (cs : List Value) (x : Tri) (h : TriL w cs x) (hb : Below w.heap.size w w') : TriL w' cs x := h
theorem triL_len (w : World) (cs : List Value) (x : Tri) (h : TriL w cs x) : cs.length = 3 := by rw [show cs = _ from h]; rfl
theorem rdL_stays (w w' : World) (cs : List Value) (x : RdD) (h : RdL w cs x) (hb : Below w.heap.size w w') : RdL w' cs x := by obtain ⟨u, e, h1⟩ := h; exact ⟨u, e, h1.below hb⟩
theorem rdL_len (w : World) (cs : List Value) (x : RdD) (h : RdL w cs x) : cs.length = 2 := by obtain ⟨u, rfl, -⟩ := h; rfl
theorem wrL_stays (w w' : World) (cs : List Value) (x : WrD) (h : WrL w cs x) (hb : Below w.heap.size w w') : WrL w' cs x := by obtain ⟨u, v, e, h1, h2⟩ := h; exact ⟨u, v, e, h1.below hb, h2.below hb⟩
theorem wrL_len (w : World) (cs : List Value) (x : WrD) (h : WrL w cs x) : cs.length = 3 := by obtain ⟨u, v, rfl, -⟩ := h; rfl
theorem net_Sound1 {w : World} {cs : List Value} {x : Tri} (h : TriL w cs x) : Calls Try.prog 46 (#[.agg cs.toArray] ++ #[]) w fun e w' => e = .returned (.bool (badL x)) ∧ Below w.heap.size w w' := by
  obtain ⟨a, b, c⟩ := x
  rw [show cs = _ from h]
  change Calls _ _ #[.agg #[.int .i64 a, .int .i64 b, .int .i64 c]] _ _
  obtain ⟨ans, hans⟩ : ∃ t, t = badL (a, b, c) := ⟨_, rfl⟩
  rw [← hans]
  have HA : Hid (ans = decide (c < 0 ∨ 2 < c)) := Lib.hid hans
  clear hans h
  go_enter Try.func46, Try.ntmps46
  go_wp2
  all_goals
    go_ret
    refine ⟨?_, below_new1 w _⟩
    rw [HA.out]
    first
      | (rw [decide_eq_true (p := c < 0 ∨ 2 < c) (by omega)]; rfl)
      | exact Eq.trans (b := Ending.returned (.bool (decide (c < 0) || decide (2 < c)))) rfl (ret_b (by rw [← Bool.decide_or]))
theorem net_badAny {w : World} {A : Option Addr} {n c : Nat} {xs : List Tri} (h : Seq w 3 TriR tri0 (.slice A n c) xs) :
    Calls Try.prog 45 #[.slice A n c, .func (.func 46) #[] #[]] w fun e w' => e = .returned (.bool (xs.any badL)) ∧ Below w.heap.size w w' := by
  obtain ⟨h1, h2, h3⟩ := seq_cells (fun _ _ _ => triL_at) h
  exact has_q Try.hasLat 3 Try.isAgg50 Try.sizeOf50 TriL triL_stays triL_len (by decide) badL 46 #[] (enters_of Try.func46 (by kernel_rfl) rfl) h1 h2
    (fun W cs x hW hx => net_Sound1 hx) h3
set_option maxHeartbeats 1000000 in
theorem net_wide1 {w : World} {cs : List Value} {x : RdD} (h : RdL w cs x) {bm : Nat} {m : MemD} {u1 u2 : Value} (hbx : MBox w bm m u1 u2) : Calls Try.prog 56 (#[.agg cs.toArray] ++ #[.pointer (some ⟨bm, 0, none⟩)]) w fun e w' => e = .returned (.bool (widR m x)) ∧ Below w.heap.size w w' := by
  obtain ⟨u, rfl, hi⟩ := h
  obtain ⟨A, cap, rfl, -, h1, h2, -⟩ := hi
  obtain ⟨n, hn⟩ : ∃ n, n = x.2.length := ⟨_, rfl⟩
  obtain ⟨x1, x2⟩ := x
  change Calls _ _ #[.agg #[.int .i64 x1, .slice A x2.length cap], .pointer (some ⟨bm, 0, none⟩)] _ _
  rw [← hn] at h1
  obtain ⟨ans, hans⟩ : ∃ t, t = widR m (x1, x2) := ⟨_, rfl⟩
  rw [← hans]
  have HA : Hid (ans = decide ((n : Int) ≠ m.addr)) := Lib.hid (by rw [hans, hn]; rfl)
  change n = x2.length at hn
  rw [← hn]
  unfold maxLen at h2
  have c0 := (hbx.later (below_new1 w (.cells #[.int .i64 x1, .slice A n cap] 52))).c0
  clear hans hn hbx
  go_enter Try.func56, Try.ntmps56
  go_wp2
  go_ret
  refine ⟨?_, below_new1 w _⟩
  rw [HA.out]
  refine Eq.trans (b := Ending.returned (.bool ((n : Int) != m.addr))) rfl (ret_b ?_)
  by_cases h : (n : Int) = m.addr
  · rw [decide_eq_false (by simpa using h)]; simp [h]
  · rw [decide_eq_true h]; simpa using h
set_option maxHeartbeats 1000000 in
theorem net_wide2 {w : World} {cs : List Value} {x : WrD} (h : WrL w cs x) {bm : Nat} {m : MemD} {u1 u2 : Value} (hbx : MBox w bm m u1 u2) : Calls Try.prog 57 (#[.agg cs.toArray] ++ #[.pointer (some ⟨bm, 0, none⟩)]) w fun e w' => e = .returned (.bool (widW m x)) ∧ Below w.heap.size w w' := by
  obtain ⟨u, v, rfl, hi, hj⟩ := h
  obtain ⟨A, cap, rfl, -, h1, h2, -⟩ := hi
  obtain ⟨A2, cap2, rfl, -, g1, g2, -⟩ := hj
  obtain ⟨x1, x2, x3⟩ := x
  obtain ⟨n, hn⟩ : ∃ n, n = x2.length := ⟨_, rfl⟩
  obtain ⟨k, hk⟩ : ∃ n, n = x3.length := ⟨_, rfl⟩
  change Calls _ _ #[.agg #[.int .i64 x1, .slice A x2.length cap, .slice A2 x3.length cap2], .pointer (some ⟨bm, 0, none⟩)] _ _
  obtain ⟨ans, hans⟩ : ∃ t, t = widW m (x1, x2, x3) := ⟨_, rfl⟩
  rw [← hans]
  have HA : Hid (ans = decide ((n : Int) ≠ m.addr ∨ (k : Int) ≠ m.word)) := Lib.hid (by rw [hans, hn, hk]; rfl)
  change x2.length ≤ _ at h1
  change x3.length ≤ _ at g1
  rw [← hn] at h1 ⊢
  rw [← hk] at g1 ⊢
  unfold maxLen at h2 g2
  have c0 := (hbx.later (below_new1 w (.cells #[.int .i64 x1, .slice A n cap, .slice A2 k cap2] 74))).c0
  have c1 := (hbx.later (below_new1 w (.cells #[.int .i64 x1, .slice A n cap, .slice A2 k cap2] 74))).c1
  clear hans hn hk hbx
  by_cases h : (n : Int) = m.addr
  · have hb : ((n : Int) != m.addr) = false := by rw [bne_eq_false_iff_eq]; exact h
    have HH := Lib.hid h
    clear h
    go_enter Try.func57, Try.ntmps57
    go_wp2
    go_ret
    refine ⟨?_, below_new1 w _⟩
    rw [HA.out]
    refine Eq.trans (b := Ending.returned (.bool ((k : Int) != m.word))) rfl (ret_b ?_)
    by_cases h : (k : Int) = m.word
    · rw [decide_eq_false (by have := HH.out; omega)]; simp [h]
    · rw [decide_eq_true (.inr h)]; simpa using h
  · have hb : ((n : Int) != m.addr) = true := by rw [bne_iff_ne]; exact h
    have HF : Hid (ans = true) := Lib.hid (by rw [HA.out]; exact decide_eq_true (.inl h))
    clear h
    go_enter Try.func57, Try.ntmps57
    go_wp2
    go_ret
    exact ⟨by rw [HF.out]; rfl, below_new1 w _⟩
set_option maxHeartbeats 4000000 in
set_option maxRecDepth 100000 in
theorem net_wide {w : World} {cs : List Value} {x : MemD} (h : MemL w cs x) : Calls Try.prog 44 (#[.agg cs.toArray] ++ #[]) w fun e w' => e = .returned (.bool (wideN x)) ∧ Below w.heap.size w w' := by
  obtain ⟨ans, hans⟩ : ∃ b, b = wideN x := ⟨_, rfl⟩
  rw [← hans]
  obtain ⟨u, v, rfl, hm⟩ := h
  obtain ⟨ra, rc, nr, wa, wc, nw, hag, hnr, hnw, r1, r2, q1, q2, HR, HW⟩ := hm.open_
  simp only [List.toArray, List.toArrayImpl, Value.agg.injEq] at hag
  have hag' := congrArg Array.toList hag
  simp at hag'
  obtain ⟨rfl, rfl⟩ := hag'
  clear hag hm
  change Calls _ _ #[.agg #[.int .i64 x.addr, .int .i64 x.word, .bool x.any, .slice ra nr rc, .slice wa nw wc]] _ _
  have HA := Lib.hid hans
  obtain ⟨wb, hwb⟩ : ∃ wb, wb = w.alloc (.cells #[.int .i64 x.addr, .int .i64 x.word, .bool x.any, .slice ra nr rc, .slice wa nw wc] 56) := ⟨_, rfl⟩
  obtain ⟨bx, hbx⟩ : ∃ bx, bx = w.heap.size := ⟨_, rfl⟩
  have HB1 : Hid (Below w.heap.size w wb) := Lib.hid (by rw [hwb]; exact below_new1 w _)
  have HBX : Hid (MBox wb bx x (.slice ra nr rc) (.slice wa nw wc)) := Lib.hid (by rw [hwb, hbx]; exact Blk.new w _ _)
  obtain ⟨s1, s2, s3⟩ := seq_cells (fun _ _ _ => rdL_at) (HR.out.below stays_rd HB1.out)
  have hrd := has_q Try.hasRd (A := ra) (n := nr) (c := rc) 2 Try.isAgg52 Try.sizeOf52 RdL rdL_stays rdL_len (by decide) (widR x) 56 #[.pointer (some ⟨bx, 0, none⟩)] (enters_of Try.func56 (by kernel_rfl) rfl) s1 s2
    (fun W cs y hW hy => net_wide1 hy (HBX.out.later hW)) s3
  have hwr := fun W (hW : Below wb.heap.size wb W) => by
    obtain ⟨t1, t2, t3⟩ := seq_cells (fun _ _ _ => wrL_at) (HW.out.below stays_wr (HB1.out.trans (hW.mono HB1.out.size)))
    exact has_q Try.hasWr (A := wa) (n := nw) (c := wc) 3 Try.isAgg74 Try.sizeOf74 WrL wrL_stays wrL_len (by decide) (widW x) 57 #[.pointer (some ⟨bx, 0, none⟩)] (enters_of Try.func57 (by kernel_rfl) rfl) t1 t2
      (fun W' cs y hW' hy => net_wide2 hy (HBX.out.later (hW.trans (hW'.mono hW.size)))) t3
  have c4 := fun W (hW : Below wb.heap.size wb W) => (HBX.out.later hW).c4
  rw [hwb] at hrd
  rw [hbx] at hrd
  have HRD := Lib.hid hrd
  have HWR := Lib.hid hwr
  have HC4 := Lib.hid c4
  have HW1 := Lib.hid hwb
  have HBE := Lib.hid hbx
  have HWH : Hid (widH x = true → ans = true) := Lib.hid (fun h => by rw [HA.out]; unfold wideN; rw [h, Bool.true_or, Bool.true_or])
  have hcs : x.addr < 1 ∨ (1 ≤ x.addr ∧ 62 < x.addr) ∨ (1 ≤ x.addr ∧ x.addr ≤ 62 ∧ x.word < 1) ∨ (1 ≤ x.addr ∧ x.addr ≤ 62 ∧ 1 ≤ x.word ∧ 64 < x.word) ∨ (1 ≤ x.addr ∧ x.addr ≤ 62 ∧ 1 ≤ x.word ∧ x.word ≤ 64) := by omega
  clear hans hnr hnw hwb hbx s1 s2 s3 hrd hwr c4
  rcases hcs with k1 | ⟨k1, k2⟩ | ⟨k1, k2, k3⟩ | ⟨k1, k2, k3, k4⟩ | ⟨k1, k2, k3, k4⟩
  iterate 4
    · have HF : Hid (ans = true) := Lib.hid (HWH.out (decide_eq_true (by omega)))
      go_enter Try.func44, Try.ntmps44
      go_wp2_with fail
      go_ret
      exact ⟨by rw [HF.out]; rfl, below_new1 w _⟩
  have HWF : Hid (ans = (x.rd.any (widR x) || x.wr.any (widW x))) := Lib.hid (by
    have : widH x = false := decide_eq_false (by omega)
    rw [HA.out]; unfold wideN; rw [this, Bool.false_or])
  cases hq : x.rd.any (widR x) with
  | true =>
    rw [hq] at HRD
    have HF : Hid (ans = true) := Lib.hid (by rw [HWF.out, hq, Bool.true_or])
    clear hq
    go_enter Try.func44, Try.ntmps44
    go_wp2_with (go_at_call 58; refine HRD.out.mono ?_; rintro e w2 ⟨rfl, hb⟩; have HB2 := Lib.hid hb; clear hb)
    go_ret
    exact ⟨by rw [HF.out]; rfl, (below_new1 w _).trans (HB2.out.mono (by simp))⟩
  | false =>
    rw [hq] at HRD
    have HF : Hid (ans = x.wr.any (widW x)) := Lib.hid (by rw [HWF.out, hq, Bool.false_or])
    clear hq
    go_enter Try.func44, Try.ntmps44
    go_wp2_with (go_at_call 58; refine HRD.out.mono ?_; rintro e w2 ⟨rfl, hb⟩; rw [← HW1.out] at hb; have c4 := HC4.out w2 hb; rw [HBE.out] at c4; have HWW := HWR.out w2 hb; rw [HBE.out] at HWW; replace HWW := Lib.hid HWW; have HB2 := Lib.hid hb; clear hb)
    refine HWW.out.mono ?_
    rintro e w3 ⟨rfl, hb3⟩
    have HB3 := Lib.hid (HB1.out.trans ((HB2.out.trans (hb3.mono HB2.out.size)).mono HB1.out.size))
    clear hb3
    go_wp2
    go_ret
    exact ⟨by rw [HF.out]; rfl, HB3.out⟩
theorem net_wideAny {w : World} {A : Option Addr} {n c : Nat} {xs : List MemD} (h : Seq w 5 MemR mem0 (.slice A n c) xs) :
    Calls Try.prog 43 #[.slice A n c, .func (.func 44) #[] #[]] w fun e w' => e = .returned (.bool (xs.any wideN)) ∧ Below w.heap.size w w' := by
  obtain ⟨h1, h2, h3⟩ := seq_cells (fun _ _ _ => memL_at) h
  exact has_q Try.hasMem 5 Try.isAgg56 Try.sizeOf56 MemL memL_stays memL_len (by decide) wideN 44 #[] (enters_of Try.func44 (by kernel_rfl) rfl) h1 h2
    (fun W cs x hW hx => net_wide hx) h3
end Go.Proofs.Ytgnimegdgphlmaa
