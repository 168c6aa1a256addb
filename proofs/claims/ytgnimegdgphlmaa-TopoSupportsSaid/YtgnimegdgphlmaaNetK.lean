/-
  Package net: limits, wide, Data, walked.
-/
import Derived.Test.YtgnimegdgphlmaaNetF
import Derived.Test.YtgnimegdgphlmaaHas
import Derived.Test.YtgnimegdgphlmaaShelf
namespace Go.Proofs.Ytgnimegdgphlmaa
open Go.ChangeShapes Go.WideShapes Go.ChangeAt Go.RowKit
set_option linter.unusedVariables false
set_option linter.unusedSimpArgs false
attribute [local go_sem ↓] Go.wp_at_zero Go.wp_at_succ
/-! ### raw cells -/
def TriL (w : World) (cs : List Value) (x : Tri) : Prop := cs = [.int .i64 x.1, .int .i64 x.2.1, .int .i64 x.2.2]
def RdL (w : World) (cs : List Value) (x : RdD) : Prop := ∃ u, cs = [.int .i64 x.1, u] ∧ Ints w u x.2
def WrL (w : World) (cs : List Value) (x : WrD) : Prop := ∃ u v, cs = [.int .i64 x.1, u, v] ∧ Ints w u x.2.1 ∧ Ints w v x.2.2
def MemL (w : World) (cs : List Value) (x : MemD) : Prop := ∃ u v, cs = [.int .i64 x.addr, .int .i64 x.word, .bool x.any, u, v] ∧ MemV w (.agg cs.toArray) x
theorem triL_at {w : World} {b o : Nat} {x : Tri} (h : TriR w b o x) : ∃ cs, TriL w cs x ∧ ∀ i v, cs[i]? = some v → w.cell? ⟨b, o + i, none⟩ = some v :=
  ⟨_, rfl, fun i v hv => by
    obtain ⟨h0, h1, h2⟩ := h
    match i, hv with
    | 0, hv => exact h0.trans hv
    | 1, hv => exact h1.trans hv
    | 2, hv => exact h2.trans hv⟩
theorem rdL_at {w : World} {b o : Nat} {x : RdD} (h : RdR w b o x) : ∃ cs, RdL w cs x ∧ ∀ i v, cs[i]? = some v → w.cell? ⟨b, o + i, none⟩ = some v := by
  obtain ⟨h0, u, h1, h2⟩ := h
  refine ⟨_, ⟨u, rfl, h2⟩, fun i v hv => ?_⟩
  match i, hv with
  | 0, hv => exact h0.trans hv
  | 1, hv => exact h1.trans hv
theorem wrL_at {w : World} {b o : Nat} {x : WrD} (h : WrR w b o x) : ∃ cs, WrL w cs x ∧ ∀ i v, cs[i]? = some v → w.cell? ⟨b, o + i, none⟩ = some v := by
  obtain ⟨h0, ⟨u, h1, h2⟩, v, h3, h4⟩ := h
  refine ⟨_, ⟨u, v, rfl, h2, h4⟩, fun i v hv => ?_⟩
  match i, hv with
  | 0, hv => exact h0.trans hv
  | 1, hv => exact h1.trans hv
  | 2, hv => exact h3.trans hv
theorem memL_at {w : World} {b o : Nat} {x : MemD} (h : MemR w b o x) : ∃ cs, MemL w cs x ∧ ∀ i v, cs[i]? = some v → w.cell? ⟨b, o + i, none⟩ = some v := by
  obtain ⟨u1, u2, h0, h1, h2, h3, h4, h5⟩ := h.val
  refine ⟨_, ⟨u1, u2, rfl, h5⟩, fun i v hv => ?_⟩
  match i, hv with
  | 0, hv => exact h0.trans hv
  | 1, hv => exact h1.trans hv
  | 2, hv => exact h2.trans hv
  | 3, hv => exact h3.trans hv
  | 4, hv => exact h4.trans hv
theorem seq_cells {α : Type} {w : World} {size : Nat} {R : World → Nat → Nat → α → Prop} {RL : World → List Value → α → Prop} {d : α} {A : Option Addr} {n c : Nat} {xs : List α}
    (hR : ∀ b o x, R w b o x → ∃ cs, RL w cs x ∧ ∀ i v, cs[i]? = some v → w.cell? ⟨b, o + i, none⟩ = some v) (h : Seq w size R d (.slice A n c) xs) :
    n = xs.length ∧ n ≤ 9223372036854775807 ∧ (xs = [] ∨ ∃ b off, A = some ⟨b, off, none⟩ ∧ ∀ j, j < xs.length → ∃ cs, RL w cs (xs.getD j d) ∧ ∀ i v, cs[i]? = some v → w.cell? ⟨b, off + j * size + i, none⟩ = some v) := by
  obtain ⟨a, cap, e, h1, h2, h3⟩ := h
  injection e with e1 e2 e3
  subst e1 e2
  unfold maxLen at h2
  refine ⟨rfl, by omega, ?_⟩
  rcases h3 with h3 | ⟨b, off, rfl, hc⟩
  · exact .inl h3
  · exact .inr ⟨b, off, rfl, fun j hj => hR _ _ _ (hc j hj)⟩
/-! ### the closures -/
theorem net_lim1 (x : Int) (w : World) : Calls Try.prog 53 #[.int .i64 x] w fun e w' => e = .returned (.bool (decide (2000 < x))) ∧ w = w' := by
  go_enter Try.func53, Try.ntmps53
  go_wp2
  go_ret
  exact ⟨rfl, rfl⟩
set_option maxHeartbeats 1000000 in
theorem net_lim2 {w : World} {cs : List Value} {x : MemD} (h : MemL w cs x) (lb : Array Value) (hlb : lb = #[]) : Calls Try.prog 54 (#[.agg cs.toArray] ++ lb) w fun e w' => e = .returned (.bool (limM x)) ∧ Below w.heap.size w w' := by
  subst hlb
  obtain ⟨ans, hans⟩ : ∃ b, b = limM x := ⟨_, rfl⟩
  rw [← hans]
  obtain ⟨u, v, rfl, hm⟩ := h
  obtain ⟨ra, rc, nr, wa, wc, nw, hag, hnr, hnw, r1, r2, q1, q2, -, -⟩ := hm.open_
  simp only [List.toArray, List.toArrayImpl, Value.agg.injEq] at hag
  have hag' := congrArg Array.toList hag
  simp at hag'
  obtain ⟨rfl, rfl⟩ := hag'
  have HA : Hid (ans = decide (4 < nr ∨ 4 < nw)) := Lib.hid (by rw [hans, hnr, hnw]; rfl)
  clear hans hag hm hnr hnw
  change Calls _ _ #[.agg #[.int .i64 x.addr, .int .i64 x.word, .bool x.any, .slice ra nr rc, .slice wa nw wc]] _ _
  go_enter Try.func54, Try.ntmps54
  go_wp2
  all_goals
    go_ret
    refine ⟨?_, below_new1 w _⟩
    rw [HA.out]
    first
      | (rw [decide_eq_true (p := 4 < nr ∨ 4 < nw) (by omega)]; rfl)
      | exact Eq.trans (b := Ending.returned (.bool (decide (4 < (nr : Int)) || decide (4 < (nw : Int))))) rfl (ret_b (by rw [← Bool.decide_or]; exact decide_eq_decide.2 (by omega)))
theorem memL_stays (w w' : World) (cs : List Value) (x : MemD) (h : MemL w cs x) (hb : Below w.heap.size w w') : MemL w' cs x := by
  obtain ⟨u, v, e, hm⟩ := h; exact ⟨u, v, e, hm.below hb⟩
theorem memL_len (w : World) (cs : List Value) (x : MemD) (h : MemL w cs x) : cs.length = 5 := by obtain ⟨u, v, rfl, -⟩ := h; rfl
theorem net_limAny {w : World} {A : Option Addr} {n c : Nat} {xs : List MemD} (h : Seq w 5 MemR mem0 (.slice A n c) xs) :
    Calls Try.prog 43 #[.slice A n c, .func (.func 54) #[] #[]] w fun e w' => e = .returned (.bool (xs.any limM)) ∧ Below w.heap.size w w' := by
  obtain ⟨h1, h2, h3⟩ := seq_cells (fun _ _ _ => memL_at) h
  exact has_q Try.hasMem 5 Try.isAgg56 Try.sizeOf56 MemL memL_stays memL_len (by decide) limM 54 #[] (enters_of Try.func54 (by kernel_rfl) rfl) h1 h2
    (fun W cs x hW hx => net_lim2 hx #[] rfl) h3
set_option maxHeartbeats 4000000 in
set_option maxRecDepth 100000 in
theorem net_limits {w : World} {d : NetD} {vi vl vo vb vc vm va : Value} (h : NetP w d vi vl vo vb vc vm va) (hl : liH d = true) :
    Calls Try.prog 42 #[netV d vi vl vo vb vc vm va] w fun e w' => e = .returned (.bool (limitsN d)) ∧ Below w.heap.size w w' := by
  obtain ⟨ans, hans⟩ : ∃ b, b = limitsN d := ⟨_, rfl⟩
  rw [← hans]
  obtain ⟨ai, ci, ni, al, cl, nl, ao, co, no, ab, cb, nb, ac, cc, nc, am, cm, nm, aa, ca, na, rfl, rfl, rfl, rfl, rfl, rfl, rfl, HN, HC⟩ := h.open_ hl
  obtain ⟨⟨i1, i2, i3⟩, ⟨l1, l2, l3⟩, ⟨o1, o2, o3⟩, ⟨b1, b2, b3⟩, ⟨c1, c2, c3⟩, ⟨m1, m2, m3⟩, ⟨a1, a2, a3⟩⟩ := HC
  have HAT : Hid ((d.vars < 0 ∨ 2000 < d.vars ∨ 2000 < ni ∨ 2000 < nl ∨ 2000 < na ∨ 1000 < no + nb + nc ∨ 4 < nm) → ans = true) := Lib.hid (fun h => by
    have e1 := HN.out.inp; have e2 := HN.out.lat; have e3 := HN.out.ands; have e4 := HN.out.out; have e5 := HN.out.bad; have e6 := HN.out.con; have e7 := HN.out.mems
    by_cases hh : d.vars < 0 ∨ 2000 < d.vars ∨ 1000 < d.out.length + d.bad.length + d.con.length ∨ 4 < d.mems.length
    · have : limH d = true := decide_eq_true hh
      rw [hans]; unfold limitsN; rw [this, Bool.true_or, Bool.true_or]
    · have : limT d = true := decide_eq_true (by omega)
      rw [hans]; unfold limitsN; rw [this, Bool.or_true])
  have HAF : Hid (¬ (d.vars < 0 ∨ 2000 < d.vars ∨ 2000 < ni ∨ 2000 < nl ∨ 2000 < na ∨ 1000 < no + nb + nc ∨ 4 < nm) → ans = d.mems.any limM) := Lib.hid (fun h => by
    have e1 := HN.out.inp; have e2 := HN.out.lat; have e3 := HN.out.ands; have e4 := HN.out.out; have e5 := HN.out.bad; have e6 := HN.out.con; have e7 := HN.out.mems
    have h1 : limH d = false := decide_eq_false (by omega)
    have h2 : limT d = false := decide_eq_false (by omega)
    rw [hans]; unfold limitsN; rw [h1, h2, Bool.false_or, Bool.or_false])
  have hany := net_limAny (h.mems.below stays_mem (below_new1 w (.cells #[.int .i64 d.vars, .slice ai ni ci, .slice al nl cl, .slice ao no co, .slice ab nb cb, .slice ac nc cc, .slice am nm cm, .slice aa na ca] 27)))
  have HANY := Lib.hid hany
  unfold netV
  have hcs : d.vars < 0 ∨ (0 ≤ d.vars ∧ 2000 < d.vars) ∨ (0 ≤ d.vars ∧ d.vars ≤ 2000 ∧ 2000 < (ni : Int)) ∨ (0 ≤ d.vars ∧ d.vars ≤ 2000 ∧ (ni : Int) ≤ 2000 ∧ 2000 < (nl : Int)) ∨ (0 ≤ d.vars ∧ d.vars ≤ 2000 ∧ (ni : Int) ≤ 2000 ∧ (nl : Int) ≤ 2000 ∧ 2000 < (na : Int)) ∨
    (0 ≤ d.vars ∧ d.vars ≤ 2000 ∧ (ni : Int) ≤ 2000 ∧ (nl : Int) ≤ 2000 ∧ (na : Int) ≤ 2000) := by omega
  clear hans h hl hany
  rcases hcs with k1 | ⟨k1, k2⟩ | ⟨k1, k2, k3⟩ | ⟨k1, k2, k3, k4⟩ | ⟨k1, k2, k3, k4, k5⟩ | ⟨k1, k2, k3, k4, k5⟩
  all_goals
    go_enter Try.func42, Try.ntmps42
    go_wp2_with (first | ((go_at_call 53; refine (net_lim1 _ _).mono ?_; rintro e w' ⟨rfl, rfl⟩)) | (go_at_call 43; refine HANY.out.mono ?_; rintro e w2 ⟨rfl, hb⟩; have HB2 := Lib.hid hb; clear hb))
  all_goals first
    | (have HF : Hid (ans = true) := Lib.hid (HAT.out (by omega))
       go_ret
       exact ⟨by rw [HF.out]; rfl, below_new1 w _⟩)
    | (have HF : Hid (ans = d.mems.any limM) := Lib.hid (HAF.out (by omega))
       go_ret
       exact ⟨by rw [HF.out]; rfl, (below_new1 w _).trans (HB2.out.mono (by simp))⟩)
end Go.Proofs.Ytgnimegdgphlmaa
