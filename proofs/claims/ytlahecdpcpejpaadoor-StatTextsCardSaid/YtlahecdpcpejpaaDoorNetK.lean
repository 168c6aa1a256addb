/-
  Package net: limits, wide, Data, walked.
-/
import Derived.Test.YtlahecdpcpejpaaDoorNetE
import Derived.Test.YtlahecdpcpejpaaDoorHas
import Derived.Test.YtlahecdpcpejpaaDoorShelf
namespace Go.Proofs.YtlahecdpcpejpaaDoor
open Go.ChangeShapes Go.WideShapes Go.ChangeAt Go.RowKit
set_option linter.unusedVariables false
set_option linter.unusedSimpArgs false
attribute [local go_sem ↓] Go.wp_at_zero Go.wp_at_succ
/-! ### raw cells -/
def TriL (w : World) (cs : List Value) (x : Tri) : Prop := cs = [.int .i64 x.1, .int .i64 x.2.1, .int .i64 x.2.2]
def RdL (w : World) (cs : List Value) (x : RdD) : Prop := ∃ u, cs = [.int .i64 x.1, u] ∧ Ints w u x.2
def WrL (w : World) (cs : List Value) (x : WrD) : Prop := ∃ u v, cs = [.int .i64 x.1, u, v] ∧ Ints w u x.2.1 ∧ Ints w v x.2.2
def MemL (w : World) (cs : List Value) (x : MemD) : Prop := ∃ u v, cs = [.int .i64 x.addr, .int .i64 x.word, .bool x.any, u, v] ∧ MemV w (.agg cs.toArray) x
theorem triL_at {w : World} {b o : Nat} {x : Tri} (h : TriR w b o x) : ∃ cs, TriL w cs x ∧ ∀ i v, cs[i]? = some v → w.cell? ⟨b, o + i, none⟩ = some v :=
  ⟨_, rfl, fun i v hv => by
    obtain ⟨h0, h1, h2⟩ := h
    match i, hv with
    | 0, hv => exact h0.trans hv
    | 1, hv => exact h1.trans hv
    | 2, hv => exact h2.trans hv⟩
theorem rdL_at {w : World} {b o : Nat} {x : RdD} (h : RdR w b o x) : ∃ cs, RdL w cs x ∧ ∀ i v, cs[i]? = some v → w.cell? ⟨b, o + i, none⟩ = some v := by
  obtain ⟨h0, u, h1, h2⟩ := h
  refine ⟨_, ⟨u, rfl, h2⟩, fun i v hv => ?_⟩
  match i, hv with
  | 0, hv => exact h0.trans hv
  | 1, hv => exact h1.trans hv
theorem wrL_at {w : World} {b o : Nat} {x : WrD} (h : WrR w b o x) : ∃ cs, WrL w cs x ∧ ∀ i v, cs[i]? = some v → w.cell? ⟨b, o + i, none⟩ = some v := by
  obtain ⟨h0, ⟨u, h1, h2⟩, v, h3, h4⟩ := h
  refine ⟨_, ⟨u, v, rfl, h2, h4⟩, fun i v hv => ?_⟩
  match i, hv with
  | 0, hv => exact h0.trans hv
  | 1, hv => exact h1.trans hv
  | 2, hv => exact h3.trans hv
theorem memL_at {w : World} {b o : Nat} {x : MemD} (h : MemR w b o x) : ∃ cs, MemL w cs x ∧ ∀ i v, cs[i]? = some v → w.cell? ⟨b, o + i, none⟩ = some v := by
  obtain ⟨u1, u2, h0, h1, h2, h3, h4, h5⟩ := h.val
  refine ⟨_, ⟨u1, u2, rfl, h5⟩, fun i v hv => ?_⟩
  match i, hv with
  | 0, hv => exact h0.trans hv
  | 1, hv => exact h1.trans hv
  | 2, hv => exact h2.trans hv
  | 3, hv => exact h3.trans hv
  | 4, hv => exact h4.trans hv
theorem seq_cells {α : Type} {w : World} {size : Nat} {R : World → Nat → Nat → α → Prop} {RL : World → List Value → α → Prop} {d : α} {A : Option Addr} {n c : Nat} {xs : List α}
    (hR : ∀ b o x, R w b o x → ∃ cs, RL w cs x ∧ ∀ i v, cs[i]? = some v → w.cell? ⟨b, o + i, none⟩ = some v) (h : Seq w size R d (.slice A n c) xs) :
    n = xs.length ∧ n ≤ 9223372036854775807 ∧ (xs = [] ∨ ∃ b off, A = some ⟨b, off, none⟩ ∧ ∀ j, j < xs.length → ∃ cs, RL w cs (xs.getD j d) ∧ ∀ i v, cs[i]? = some v → w.cell? ⟨b, off + j * size + i, none⟩ = some v) := by
  obtain ⟨a, cap, e, h1, h2, h3⟩ := h
  injection e with e1 e2 e3
  subst e1 e2
  unfold maxLen at h2
  refine ⟨rfl, by omega, ?_⟩
  rcases h3 with h3 | ⟨b, off, rfl, hc⟩
  · exact .inl h3
  · exact .inr ⟨b, off, rfl, fun j hj => hR _ _ _ (hc j hj)⟩
/-! ### the closures -/
theorem net_lim1 (x : Int) (w : World) : Calls Tryd.prog 81 #[.int .i64 x] w fun e w' => e = .returned (.bool (decide (2000 < x))) ∧ w = w' := by
  go_enter Tryd.func81, Tryd.ntmps81
  go_wp2
  go_ret
  exact ⟨rfl, rfl⟩
set_option maxHeartbeats 1000000 in
theorem net_lim2 {w : World} {cs : List Value} {x : MemD} (h : MemL w cs x) (lb : Array Value) (hlb : lb = #[]) : Calls Tryd.prog 82 (#[.agg cs.toArray] ++ lb) w fun e w' => e = .returned (.bool (limM x)) ∧ Below w.heap.size w w' := by
  subst hlb
  obtain ⟨ans, hans⟩ : ∃ b, b = limM x := ⟨_, rfl⟩
  rw [← hans]
  obtain ⟨u, v, rfl, hm⟩ := h
  obtain ⟨ra, rc, nr, wa, wc, nw, hag, hnr, hnw, r1, r2, q1, q2, -, -⟩ := hm.open_
  simp only [List.toArray, List.toArrayImpl, Value.agg.injEq] at hag
  have hag' := congrArg Array.toList hag
  simp at hag'
  obtain ⟨rfl, rfl⟩ := hag'
  have HA : Hid (ans = decide (4 < nr ∨ 4 < nw)) := Lib.hid (by rw [hans, hnr, hnw]; rfl)
  clear hans hag hm hnr hnw
  change Calls _ _ #[.agg #[.int .i64 x.addr, .int .i64 x.word, .bool x.any, .slice ra nr rc, .slice wa nw wc]] _ _
  go_enter Tryd.func82, Tryd.ntmps82
  go_wp2
  all_goals
    go_ret
    refine ⟨?_, below_new1 w _⟩
    rw [HA.out]
    first
      | (rw [decide_eq_true (p := 4 < nr ∨ 4 < nw) (by omega)]; rfl)
      | exact Eq.trans (b := Ending.returned (.bool (decide (4 < (nr : Int)) || decide (4 < (nw : Int))))) rfl (ret_b (by rw [← Bool.decide_or]; exact decide_eq_decide.2 (by omega)))
theorem memL_stays (w w' : World) (cs : List Value) (x : MemD) (h : MemL w cs x) (hb : Below w.heap.size w w') : MemL w' cs x := by
  obtain ⟨u, v, e, hm⟩ := h; exact ⟨u, v, e, hm.below hb⟩
theorem memL_len (w : World) (cs : List Value) (x : MemD) (h : MemL w cs x) : cs.length = 5 := by obtain ⟨u, v, rfl, -⟩ := h; rfl
theorem net_limAny {w : World} {A : Option Addr} {n c : Nat} {xs : List MemD} (h : Seq w 5 MemR mem0 (.slice A n c) xs) :
    Calls Tryd.prog 69 #[.slice A n c, .func (.func 82) #[] #[]] w fun e w' => e = .returned (.bool (xs.any limM)) ∧ Below w.heap.size w w' := by
  obtain ⟨h1, h2, h3⟩ := seq_cells (fun _ _ _ => memL_at) h
  exact has_q Tryd.hasMem 5 Tryd.isAgg53 Tryd.sizeOf53 MemL memL_stays memL_len (by decide) limM 82 #[] (enters_of Tryd.func82 (by kernel_rfl) rfl) h1 h2
    (fun W cs x hW hx => net_lim2 hx #[] rfl) h3
set_option maxHeartbeats 4000000 in
set_option maxRecDepth 100000 in
theorem net_limits {w : World} {d : NetD} {vi vl vo vb vc vm va : Value} (h : NetP w d vi vl vo vb vc vm va) (hl : liH d = true) :
    Calls Tryd.prog 68 #[netV d vi vl vo vb vc vm va] w fun e w' => e = .returned (.bool (limitsN d)) ∧ Below w.heap.size w w' := by
  obtain ⟨ans, hans⟩ : ∃ b, b = limitsN d := ⟨_, rfl⟩
  rw [← hans]
  obtain ⟨ai, ci, ni, al, cl, nl, ao, co, no, ab, cb, nb, ac, cc, nc, am, cm, nm, aa, ca, na, rfl, rfl, rfl, rfl, rfl, rfl, rfl, HN, HC⟩ := h.open_ hl
  obtain ⟨⟨i1, i2, i3⟩, ⟨l1, l2, l3⟩, ⟨o1, o2, o3⟩, ⟨b1, b2, b3⟩, ⟨c1, c2, c3⟩, ⟨m1, m2, m3⟩, ⟨a1, a2, a3⟩⟩ := HC
  have HAT : Hid ((d.vars < 0 ∨ 2000 < d.vars ∨ 2000 < ni ∨ 2000 < nl ∨ 2000 < na ∨ 1000 < no + nb + nc ∨ 4 < nm) → ans = true) := Lib.hid (fun h => by
    have e1 := HN.out.inp; have e2 := HN.out.lat; have e3 := HN.out.ands; have e4 := HN.out.out; have e5 := HN.out.bad; have e6 := HN.out.con; have e7 := HN.out.mems
    by_cases hh : d.vars < 0 ∨ 2000 < d.vars ∨ 1000 < d.out.length + d.bad.length + d.con.length ∨ 4 < d.mems.length
    · have : limH d = true := decide_eq_true hh
      rw [hans]; unfold limitsN; rw [this, Bool.true_or, Bool.true_or]
    · have : limT d = true := decide_eq_true (by omega)
      rw [hans]; unfold limitsN; rw [this, Bool.or_true])
  have HAF : Hid (¬ (d.vars < 0 ∨ 2000 < d.vars ∨ 2000 < ni ∨ 2000 < nl ∨ 2000 < na ∨ 1000 < no + nb + nc ∨ 4 < nm) → ans = d.mems.any limM) := Lib.hid (fun h => by
    have e1 := HN.out.inp; have e2 := HN.out.lat; have e3 := HN.out.ands; have e4 := HN.out.out; have e5 := HN.out.bad; have e6 := HN.out.con; have e7 := HN.out.mems
    have h1 : limH d = false := decide_eq_false (by omega)
    have h2 : limT d = false := decide_eq_false (by omega)
    rw [hans]; unfold limitsN; rw [h1, h2, Bool.false_or, Bool.or_false])
  have hany := net_limAny (h.mems.below stays_mem (below_new1 w (.cells #[.int .i64 d.vars, .slice ai ni ci, .slice al nl cl, .slice ao no co, .slice ab nb cb, .slice ac nc cc, .slice am nm cm, .slice aa na ca] 28)))
  have HANY := Lib.hid hany
  unfold netV
  have hcs : d.vars < 0 ∨ (0 ≤ d.vars ∧ 2000 < d.vars) ∨ (0 ≤ d.vars ∧ d.vars ≤ 2000 ∧ 2000 < (ni : Int)) ∨ (0 ≤ d.vars ∧ d.vars ≤ 2000 ∧ (ni : Int) ≤ 2000 ∧ 2000 < (nl : Int)) ∨ (0 ≤ d.vars ∧ d.vars ≤ 2000 ∧ (ni : Int) ≤ 2000 ∧ (nl : Int) ≤ 2000 ∧ 2000 < (na : Int)) ∨
    (0 ≤ d.vars ∧ d.vars ≤ 2000 ∧ (ni : Int) ≤ 2000 ∧ (nl : Int) ≤ 2000 ∧ (na : Int) ≤ 2000) := by omega
  clear hans h hl hany
  rcases hcs with k1 | ⟨k1, k2⟩ | ⟨k1, k2, k3⟩ | ⟨k1, k2, k3, k4⟩ | ⟨k1, k2, k3, k4, k5⟩ | ⟨k1, k2, k3, k4, k5⟩
  all_goals
    go_enter Tryd.func68, Tryd.ntmps68
    go_wp2_with (first | ((go_at_call 81; refine (net_lim1 _ _).mono ?_; rintro e w' ⟨rfl, rfl⟩)) | (go_at_call 69; refine HANY.out.mono ?_; rintro e w2 ⟨rfl, hb⟩; have HB2 := Lib.hid hb; clear hb))
  all_goals first
    | (have HF : Hid (ans = true) := Lib.hid (HAT.out (by omega))
       go_ret
       exact ⟨by rw [HF.out]; rfl, below_new1 w _⟩)
    | (have HF : Hid (ans = d.mems.any limM) := Lib.hid (HAF.out (by omega))
       go_ret
       exact ⟨by rw [HF.out]; rfl, (below_new1 w _).trans (HB2.out.mono (by simp))⟩)
end Go.Proofs.YtlahecdpcpejpaaDoor
/-
  Package net: wide, Data, walked.
-/
namespace Go.Proofs.YtlahecdpcpejpaaDoor
open Go.ChangeShapes Go.WideShapes Go.ChangeAt Go.RowKit
set_option linter.unusedVariables false
set_option linter.unusedSimpArgs false
attribute [local go_sem ↓] Go.wp_at_zero Go.wp_at_succ
theorem triL_stays (w w' : World) (cs : List Value) (x : Tri) (h : TriL w cs x) (hb : Below w.heap.size w w') : TriL w' cs x := h
theorem triL_len (w : World) (cs : List Value) (x : Tri) (h : TriL w cs x) : cs.length = 3 := by rw [show cs = _ from h]; rfl
theorem rdL_stays (w w' : World) (cs : List Value) (x : RdD) (h : RdL w cs x) (hb : Below w.heap.size w w') : RdL w' cs x := by obtain ⟨u, e, h1⟩ := h; exact ⟨u, e, h1.below hb⟩
theorem rdL_len (w : World) (cs : List Value) (x : RdD) (h : RdL w cs x) : cs.length = 2 := by obtain ⟨u, rfl, -⟩ := h; rfl
theorem wrL_stays (w w' : World) (cs : List Value) (x : WrD) (h : WrL w cs x) (hb : Below w.heap.size w w') : WrL w' cs x := by obtain ⟨u, v, e, h1, h2⟩ := h; exact ⟨u, v, e, h1.below hb, h2.below hb⟩
theorem wrL_len (w : World) (cs : List Value) (x : WrD) (h : WrL w cs x) : cs.length = 3 := by obtain ⟨u, v, rfl, -⟩ := h; rfl
theorem net_Sound1 {w : World} {cs : List Value} {x : Tri} (h : TriL w cs x) : Calls Tryd.prog 72 (#[.agg cs.toArray] ++ #[]) w fun e w' => e = .returned (.bool (badL x)) ∧ Below w.heap.size w w' := by
  obtain ⟨a, b, c⟩ := x
  rw [show cs = _ from h]
  change Calls _ _ #[.agg #[.int .i64 a, .int .i64 b, .int .i64 c]] _ _
  obtain ⟨ans, hans⟩ : ∃ t, t = badL (a, b, c) := ⟨_, rfl⟩
  rw [← hans]
  have HA : Hid (ans = decide (c < 0 ∨ 2 < c)) := Lib.hid hans
  clear hans h
  go_enter Tryd.func72, Tryd.ntmps72
  go_wp2
  all_goals
    go_ret
    refine ⟨?_, below_new1 w _⟩
    rw [HA.out]
    first
      | (rw [decide_eq_true (p := c < 0 ∨ 2 < c) (by omega)]; rfl)
      | exact Eq.trans (b := Ending.returned (.bool (decide (c < 0) || decide (2 < c)))) rfl (ret_b (by rw [← Bool.decide_or]))
theorem net_badAny {w : World} {A : Option Addr} {n c : Nat} {xs : List Tri} (h : Seq w 3 TriR tri0 (.slice A n c) xs) :
    Calls Tryd.prog 71 #[.slice A n c, .func (.func 72) #[] #[]] w fun e w' => e = .returned (.bool (xs.any badL)) ∧ Below w.heap.size w w' := by
  obtain ⟨h1, h2, h3⟩ := seq_cells (fun _ _ _ => triL_at) h
  exact has_q Tryd.hasLat 3 Tryd.isAgg70 Tryd.sizeOf70 TriL triL_stays triL_len (by decide) badL 72 #[] (enters_of Tryd.func72 (by kernel_rfl) rfl) h1 h2
    (fun W cs x hW hx => net_Sound1 hx) h3
set_option maxHeartbeats 1000000 in
theorem net_wide1 {w : World} {cs : List Value} {x : RdD} (h : RdL w cs x) {bm : Nat} {m : MemD} {u1 u2 : Value} (hbx : MBox w bm m u1 u2) : Calls Tryd.prog 84 (#[.agg cs.toArray] ++ #[.pointer (some ⟨bm, 0, none⟩)]) w fun e w' => e = .returned (.bool (widR m x)) ∧ Below w.heap.size w w' := by
  obtain ⟨u, rfl, hi⟩ := h
  obtain ⟨A, cap, rfl, -, h1, h2, -⟩ := hi
  obtain ⟨n, hn⟩ : ∃ n, n = x.2.length := ⟨_, rfl⟩
  obtain ⟨x1, x2⟩ := x
  change Calls _ _ #[.agg #[.int .i64 x1, .slice A x2.length cap], .pointer (some ⟨bm, 0, none⟩)] _ _
  rw [← hn] at h1
  obtain ⟨ans, hans⟩ : ∃ t, t = widR m (x1, x2) := ⟨_, rfl⟩
  rw [← hans]
  have HA : Hid (ans = decide ((n : Int) ≠ m.addr)) := Lib.hid (by rw [hans, hn]; rfl)
  change n = x2.length at hn
  rw [← hn]
  unfold maxLen at h2
  have c0 := (hbx.later (below_new1 w (.cells #[.int .i64 x1, .slice A n cap] 65))).c0
  clear hans hn hbx
  go_enter Tryd.func84, Tryd.ntmps84
  go_wp2
  go_ret
  refine ⟨?_, below_new1 w _⟩
  rw [HA.out]
  refine Eq.trans (b := Ending.returned (.bool ((n : Int) != m.addr))) rfl (ret_b ?_)
  by_cases h : (n : Int) = m.addr
  · rw [decide_eq_false (by simpa using h)]; simp [h]
  · rw [decide_eq_true h]; simpa using h
set_option maxHeartbeats 1000000 in
theorem net_wide2 {w : World} {cs : List Value} {x : WrD} (h : WrL w cs x) {bm : Nat} {m : MemD} {u1 u2 : Value} (hbx : MBox w bm m u1 u2) : Calls Tryd.prog 85 (#[.agg cs.toArray] ++ #[.pointer (some ⟨bm, 0, none⟩)]) w fun e w' => e = .returned (.bool (widW m x)) ∧ Below w.heap.size w w' := by
  obtain ⟨u, v, rfl, hi, hj⟩ := h
  obtain ⟨A, cap, rfl, -, h1, h2, -⟩ := hi
  obtain ⟨A2, cap2, rfl, -, g1, g2, -⟩ := hj
  obtain ⟨x1, x2, x3⟩ := x
  obtain ⟨n, hn⟩ : ∃ n, n = x2.length := ⟨_, rfl⟩
  obtain ⟨k, hk⟩ : ∃ n, n = x3.length := ⟨_, rfl⟩
  change Calls _ _ #[.agg #[.int .i64 x1, .slice A x2.length cap, .slice A2 x3.length cap2], .pointer (some ⟨bm, 0, none⟩)] _ _
  obtain ⟨ans, hans⟩ : ∃ t, t = widW m (x1, x2, x3) := ⟨_, rfl⟩
  rw [← hans]
  have HA : Hid (ans = decide ((n : Int) ≠ m.addr ∨ (k : Int) ≠ m.word)) := Lib.hid (by rw [hans, hn, hk]; rfl)
  change x2.length ≤ _ at h1
  change x3.length ≤ _ at g1
  rw [← hn] at h1 ⊢
  rw [← hk] at g1 ⊢
  unfold maxLen at h2 g2
  have c0 := (hbx.later (below_new1 w (.cells #[.int .i64 x1, .slice A n cap, .slice A2 k cap2] 67))).c0
  have c1 := (hbx.later (below_new1 w (.cells #[.int .i64 x1, .slice A n cap, .slice A2 k cap2] 67))).c1
  clear hans hn hk hbx
  by_cases h : (n : Int) = m.addr
  · have hb : ((n : Int) != m.addr) = false := by rw [bne_eq_false_iff_eq]; exact h
    have HH := Lib.hid h
    clear h
    go_enter Tryd.func85, Tryd.ntmps85
    go_wp2
    go_ret
    refine ⟨?_, below_new1 w _⟩
    rw [HA.out]
    refine Eq.trans (b := Ending.returned (.bool ((k : Int) != m.word))) rfl (ret_b ?_)
    by_cases h : (k : Int) = m.word
    · rw [decide_eq_false (by have := HH.out; omega)]; simp [h]
    · rw [decide_eq_true (.inr h)]; simpa using h
  · have hb : ((n : Int) != m.addr) = true := by rw [bne_iff_ne]; exact h
    have HF : Hid (ans = true) := Lib.hid (by rw [HA.out]; exact decide_eq_true (.inl h))
    clear h
    go_enter Tryd.func85, Tryd.ntmps85
    go_wp2
    go_ret
    exact ⟨by rw [HF.out]; rfl, below_new1 w _⟩
set_option maxHeartbeats 4000000 in
set_option maxRecDepth 100000 in
theorem net_wide {w : World} {cs : List Value} {x : MemD} (h : MemL w cs x) : Calls Tryd.prog 70 (#[.agg cs.toArray] ++ #[]) w fun e w' => e = .returned (.bool (wideN x)) ∧ Below w.heap.size w w' := by
  obtain ⟨ans, hans⟩ : ∃ b, b = wideN x := ⟨_, rfl⟩
  rw [← hans]
  obtain ⟨u, v, rfl, hm⟩ := h
  obtain ⟨ra, rc, nr, wa, wc, nw, hag, hnr, hnw, r1, r2, q1, q2, HR, HW⟩ := hm.open_
  simp only [List.toArray, List.toArrayImpl, Value.agg.injEq] at hag
  have hag' := congrArg Array.toList hag
  simp at hag'
  obtain ⟨rfl, rfl⟩ := hag'
  clear hag hm
  change Calls _ _ #[.agg #[.int .i64 x.addr, .int .i64 x.word, .bool x.any, .slice ra nr rc, .slice wa nw wc]] _ _
  have HA := Lib.hid hans
  obtain ⟨wb, hwb⟩ : ∃ wb, wb = w.alloc (.cells #[.int .i64 x.addr, .int .i64 x.word, .bool x.any, .slice ra nr rc, .slice wa nw wc] 53) := ⟨_, rfl⟩
  obtain ⟨bx, hbx⟩ : ∃ bx, bx = w.heap.size := ⟨_, rfl⟩
  have HB1 : Hid (Below w.heap.size w wb) := Lib.hid (by rw [hwb]; exact below_new1 w _)
  have HBX : Hid (MBox wb bx x (.slice ra nr rc) (.slice wa nw wc)) := Lib.hid (by rw [hwb, hbx]; exact Blk.new w _ _)
  obtain ⟨s1, s2, s3⟩ := seq_cells (fun _ _ _ => rdL_at) (HR.out.below stays_rd HB1.out)
  have hrd := has_q Tryd.hasRd (A := ra) (n := nr) (c := rc) 2 Tryd.isAgg65 Tryd.sizeOf65 RdL rdL_stays rdL_len (by decide) (widR x) 84 #[.pointer (some ⟨bx, 0, none⟩)] (enters_of Tryd.func84 (by kernel_rfl) rfl) s1 s2
    (fun W cs y hW hy => net_wide1 hy (HBX.out.later hW)) s3
  have hwr := fun W (hW : Below wb.heap.size wb W) => by
    obtain ⟨t1, t2, t3⟩ := seq_cells (fun _ _ _ => wrL_at) (HW.out.below stays_wr (HB1.out.trans (hW.mono HB1.out.size)))
    exact has_q Tryd.hasWr (A := wa) (n := nw) (c := wc) 3 Tryd.isAgg67 Tryd.sizeOf67 WrL wrL_stays wrL_len (by decide) (widW x) 85 #[.pointer (some ⟨bx, 0, none⟩)] (enters_of Tryd.func85 (by kernel_rfl) rfl) t1 t2
      (fun W' cs y hW' hy => net_wide2 hy (HBX.out.later (hW.trans (hW'.mono hW.size)))) t3
  have c4 := fun W (hW : Below wb.heap.size wb W) => (HBX.out.later hW).c4
  rw [hwb] at hrd
  rw [hbx] at hrd
  have HRD := Lib.hid hrd
  have HWR := Lib.hid hwr
  have HC4 := Lib.hid c4
  have HW1 := Lib.hid hwb
  have HBE := Lib.hid hbx
  have HWH : Hid (widH x = true → ans = true) := Lib.hid (fun h => by rw [HA.out]; unfold wideN; rw [h, Bool.true_or, Bool.true_or])
  have hcs : x.addr < 1 ∨ (1 ≤ x.addr ∧ 62 < x.addr) ∨ (1 ≤ x.addr ∧ x.addr ≤ 62 ∧ x.word < 1) ∨ (1 ≤ x.addr ∧ x.addr ≤ 62 ∧ 1 ≤ x.word ∧ 64 < x.word) ∨ (1 ≤ x.addr ∧ x.addr ≤ 62 ∧ 1 ≤ x.word ∧ x.word ≤ 64) := by omega
  clear hans hnr hnw hwb hbx s1 s2 s3 hrd hwr c4
  rcases hcs with k1 | ⟨k1, k2⟩ | ⟨k1, k2, k3⟩ | ⟨k1, k2, k3, k4⟩ | ⟨k1, k2, k3, k4⟩
  iterate 4
    · have HF : Hid (ans = true) := Lib.hid (HWH.out (decide_eq_true (by omega)))
      go_enter Tryd.func70, Tryd.ntmps70
      go_wp2_with fail
      go_ret
      exact ⟨by rw [HF.out]; rfl, below_new1 w _⟩
  have HWF : Hid (ans = (x.rd.any (widR x) || x.wr.any (widW x))) := Lib.hid (by
    have : widH x = false := decide_eq_false (by omega)
    rw [HA.out]; unfold wideN; rw [this, Bool.false_or])
  cases hq : x.rd.any (widR x) with
  | true =>
    rw [hq] at HRD
    have HF : Hid (ans = true) := Lib.hid (by rw [HWF.out, hq, Bool.true_or])
    clear hq
    go_enter Tryd.func70, Tryd.ntmps70
    go_wp2_with (go_at_call 86; refine HRD.out.mono ?_; rintro e w2 ⟨rfl, hb⟩; have HB2 := Lib.hid hb; clear hb)
    go_ret
    exact ⟨by rw [HF.out]; rfl, (below_new1 w _).trans (HB2.out.mono (by simp))⟩
  | false =>
    rw [hq] at HRD
    have HF : Hid (ans = x.wr.any (widW x)) := Lib.hid (by rw [HWF.out, hq, Bool.false_or])
    clear hq
    go_enter Tryd.func70, Tryd.ntmps70
    go_wp2_with (go_at_call 86; refine HRD.out.mono ?_; rintro e w2 ⟨rfl, hb⟩; rw [← HW1.out] at hb; have c4 := HC4.out w2 hb; rw [HBE.out] at c4; have HWW := HWR.out w2 hb; rw [HBE.out] at HWW; replace HWW := Lib.hid HWW; have HB2 := Lib.hid hb; clear hb)
    refine HWW.out.mono ?_
    rintro e w3 ⟨rfl, hb3⟩
    have HB3 := Lib.hid (HB1.out.trans ((HB2.out.trans (hb3.mono HB2.out.size)).mono HB1.out.size))
    clear hb3
    go_wp2
    go_ret
    exact ⟨by rw [HF.out]; rfl, HB3.out⟩
theorem net_wideAny {w : World} {A : Option Addr} {n c : Nat} {xs : List MemD} (h : Seq w 5 MemR mem0 (.slice A n c) xs) :
    Calls Tryd.prog 69 #[.slice A n c, .func (.func 70) #[] #[]] w fun e w' => e = .returned (.bool (xs.any wideN)) ∧ Below w.heap.size w w' := by
  obtain ⟨h1, h2, h3⟩ := seq_cells (fun _ _ _ => memL_at) h
  exact has_q Tryd.hasMem 5 Tryd.isAgg53 Tryd.sizeOf53 MemL memL_stays memL_len (by decide) wideN 70 #[] (enters_of Tryd.func70 (by kernel_rfl) rfl) h1 h2
    (fun W cs x hW hx => net_wide hx) h3
end Go.Proofs.YtlahecdpcpejpaaDoor
/-
  Package net: Data, walked.
-/
namespace Go.Proofs.YtlahecdpcpejpaaDoor
open Go.ChangeShapes Go.WideShapes Go.ChangeAt Go.RowKit
set_option linter.unusedVariables false
set_option linter.unusedSimpArgs false
attribute [local go_sem ↓] Go.wp_at_zero Go.wp_at_succ
set_option maxHeartbeats 4000000 in
set_option maxRecDepth 100000 in
theorem net_Data {w : World} {x : MemD} {v : Value} (h : MemV w v x) (hl : liMH x = true) {p : Nat} (hp : p < x.rd.length) (hb : -1099511627776 ≤ (x.rd.getD p rd0).1 ∧ (x.rd.getD p rd0).1 ≤ 1099511627776) :
    Calls Tryd.prog 90 #[v, .int .i64 p] w (RetI w (dataM (x.rd.getD p rd0).1 x.word)) := by
  obtain ⟨ra, rc, nr, wa, wc, nw, rfl, hnr, hnw, r1, r2, w1, w2, HR, HW⟩ := h.open_
  obtain ⟨l1, l2, l3⟩ := of_decide_eq_true hl
  have hp1 : (p : Int) < (nr : Int) := by omega
  have hp6 : (p : Int) ≤ 6 := by omega
  have hp0 : decide ((p : Int) < 0) = false := decide_eq_false (by omega)
  have hpn : decide (nr ≤ p) = false := decide_eq_false (by omega)
  obtain ⟨b, off, cap', he, hone⟩ := HR.out.at_ hp
  injection he with e1 e2 e3
  subst e1
  obtain ⟨q0, -⟩ := hone
  obtain ⟨y, hy⟩ : ∃ y, y = (x.rd.getD p rd0).1 := ⟨_, rfl⟩
  rw [← hy] at q0 hb ⊢
  obtain ⟨hb1, hb2⟩ := hb
  obtain ⟨wd, hwd⟩ : ∃ wd, wd = x.word := ⟨_, rfl⟩
  rw [← hwd] at l3
  rw [← hwd, dataM_eq]
  obtain ⟨wb, hwb⟩ : ∃ wb, wb = w.alloc (.cells #[.int .i64 x.addr, .int .i64 wd, .bool x.any, .slice (some ⟨b, off, none⟩) nr rc, .slice wa nw wc] 53) := ⟨_, rfl⟩
  obtain ⟨bx, hbx⟩ : ∃ bx, bx = w.heap.size := ⟨_, rfl⟩
  have HB1 : Hid (Below w.heap.size w wb) := Lib.hid (by rw [hwb]; exact below_new1 w _)
  have HBX : Hid (MBox wb bx x (.slice (some ⟨b, off, none⟩) nr rc) (.slice wa nw wc)) := Lib.hid (by rw [hwb, hbx, hwd]; exact Blk.new w _ _)
  have HQ0 := Lib.hid q0
  have HW1 := Lib.hid hwb
  have HBE := Lib.hid hbx
  clear hnr hnw h hl l1 l2 hwb hbx e2 e3 hp q0 hy hwd
  go_enter Tryd.func90, Tryd.ntmps90
  go_wp2
  rw [← HW1.out, ← HBE.out]
  go_loopw [4, 5, 17] (fun u _ i wr => ∃ k : Nat, k ≤ wd.toNat ∧ i = .int .i64 k ∧ OwnI wb wr u (dat y k)) (fun _ _ i _ => wd.toNat - (intOf i).toNat)
  case atStart => exact ⟨0, Nat.zero_le _, rfl, OwnI.start wb⟩
  case round =>
    obtain ⟨k, hk, rfl, hO⟩ := hrel
    have c3 := (HBX.out.later hO.2.1).c3
    have q0 := cell_below HQ0.out (HB1.out.trans (hO.2.1.mono HB1.out.size))
    have HO := Lib.hid hO
    clear hO
    by_cases hlt : (k : Int) < wd
    · have hk9 : (k : Int) ≤ 100 := by omega
      have HB9 : Hid ((dat y k).length + 1 ≤ 1099511627776) := Lib.hid (by rw [dat_len]; omega)
      go_wp2_with (at_builtin; refine wpList_I (w := wb) rfl _ _ rfl _ (dat y k) rfl (some ⟨wr.heap.size, 0, none⟩) 1 1 [y + (k : Int)] rfl rfl HB9.out (HO.out.below (below_new1 wr (.cells #[.int .i64 (y + (k : Int))] 3))) (Src.one (heap_new1 _ _)) ?_; intro v4 w4 h4; have H4 := Lib.hid h4; clear h4)
      go_roundw
      case rel => exact ⟨k + 1, by omega, by go_num, by rw [dat_succ]; exact H4.out⟩
      case measure => simp [intOf]; omega
    · obtain rfl : k = wd.toNat := by omega
      have HF : Hid (RetI w (dat y wd.toNat) (.returned u4) wr) := Lib.hid ⟨_, rfl, HO.out.from_ HB1.out⟩
      go_wp2
      go_ret
      exact HF.out
end Go.Proofs.YtlahecdpcpejpaaDoor
