/-
  Package ram: Load.
-/
import Derived.Test.YtpohekmfdbleeaaRam4
import Derived.Carry
import Derived.BigRegion
namespace Go.Proofs.Ytpohekmfdbleeaa
open Go.ChangeShapes Go.WideShapes Go.ChangeAt Go.RowKit Go.Maps
set_option linter.unusedVariables false
theorem okAt_lt {aw ww : Int} {cs : CS} {i : Nat} (h : okAt aw ww cs i = true) (hi : i ≠ 0) : (cs.getD (i - 1) (0, 0)).1 < (cs.getD i (0, 0)).1 := by
  unfold okAt at h
  simp only [Bool.and_eq_true, Bool.or_eq_true, decide_eq_true_eq] at h
  rcases h.2 with h | h
  · exact absurd h hi
  · exact h
theorem right_okAt {aw ww : Int} {cs : CS} (h : rightB aw ww cs = true) {i : Nat} (hi : i < cs.length) : okAt aw ww cs i = true := by
  unfold rightB at h
  rw [Bool.and_eq_true, List.all_eq_true] at h
  exact h.2 i (by simpa using hi)
theorem right_rise {aw ww : Int} {cs : CS} (h : rightB aw ww cs = true) : ∀ k, k < cs.length → ∀ j, j < k → (cs.getD j (0, 0)).1 < (cs.getD k (0, 0)).1 := by
  intro k
  induction k with
  | zero => intro _ j hj; omega
  | succ k ih =>
    intro hk j hj
    have h1 := okAt_lt (right_okAt h hk) (by omega)
    rw [Nat.add_sub_cancel] at h1
    rcases Nat.lt_or_ge j k with h2 | h2
    · have := ih (by omega) j h2; omega
    · rw [show j = k by omega]; exact h1
theorem ins_last (q : Int × Int) : ∀ l : CS, (∀ p ∈ l, p.1 < q.1) → insC q l = l ++ [q]
  | [], _ => rfl
  | y :: r, h => by
    have h1 := h y (by simp)
    unfold insC
    rw [if_neg (by omega), ins_last q r (fun p hp => h p (by simp [hp]))]
    rfl
theorem put_last (l : CS) (x v : Int) (h : ∀ p ∈ l, p.1 < x) : putC l x v = l ++ [(x, v)] := by
  unfold putC
  have : delC l x = l := by
    unfold delC
    rw [List.filter_eq_self]
    intro p hp
    have := h p hp
    simp; omega
  rw [this]
  exact ins_last _ l h
theorem take_put {aw ww : Int} {cs : CS} (h : rightB aw ww cs = true) {k : Nat} (hk : k < cs.length) : putC (cs.take k) (cs.getD k (0, 0)).1 (cs.getD k (0, 0)).2 = cs.take (k + 1) := by
  rw [put_last]
  · have e : cs.getD k (0, 0) = cs[k] := by simp [List.getD, hk]
    rw [List.take_add_one, List.getElem?_eq_getElem hk, e]
    rfl
  · intro p hp
    obtain ⟨j, hj, rfl⟩ := List.getElem_of_mem hp
    have hj' : j < k := by simp at hj; omega
    have := right_rise h k hk j hj'
    simp [List.getD, hk, show j < cs.length by omega] at this ⊢
    exact this

theorem ram_Load_no {aw ww : Int} {cs : CS} {w : World} {v : Value} (h : Pairs w v cs) (hr : rightB aw ww cs = false) :
    Calls Try.prog 8 #[.int .i64 aw, .int .i64 ww, v] w fun e w' => e = .returned (.tuple #[.pointer none, .int .i64 14]) ∧ Below w.heap.size w w' := by
  have hR := ram_Right (aw := aw) (ww := ww) h
  rw [hr] at hR
  have HR := Lib.hid hR
  clear hR h hr
  go_enter Try.func8, Try.ntmps8
  go_wp2_with ((go_at_call 10; refine (HR.out).mono ?_; rintro e w1 ⟨rfl, hb⟩))
  go_ret2
  exact ⟨rfl, hb⟩
def LoadRel (r bm : Nat) (aw ww : Int) (cs : CS) (k : Nat) (w wr : World) : Prop :=
  RamAt wr r bm aw ww (cs.take k) ∧ w.heap.size ≤ r ∧ w.heap.size ≤ bm ∧ Below w.heap.size w wr
set_option maxHeartbeats 1000000 in
set_option maxRecDepth 100000 in
theorem ram_Load_yes {aw ww : Int} {cs : CS} {w : World} {v : Value} (h : Pairs w v cs) (hr : rightB aw ww cs = true) :
    Calls Try.prog 8 #[.int .i64 aw, .int .i64 ww, v] w fun e w' => ∃ r bm, e = .returned (.tuple #[.pointer (some ⟨r, 0, none⟩), .int .i64 0]) ∧ LoadRel r bm aw ww cs cs.length w w' := by
  have hR := ram_Right (aw := aw) (ww := ww) h
  rw [hr] at hR
  have HQ := Lib.hid hR
  have HT := Lib.hid hr
  clear hR hr
  have hl : cs.length ≤ 4096 := by
    have := HT.out
    unfold rightB at this
    simp only [Bool.and_eq_true, decide_eq_true_eq] at this
    exact this.1.2
  obtain ⟨a, cap, rfl, hc1, hc2, hwf, hv⟩ := h
  obtain ⟨n, hn⟩ : ∃ n, n = cs.length := ⟨_, rfl⟩
  rw [← hn] at hl hc1 HQ ⊢
  have HN := Lib.hid hn
  have HV := Lib.hid hv
  have HW := Lib.hid hwf
  clear hv hwf hn
  have hmm := @run_makeMap Try.prog
  go_enter Try.func8, Try.ntmps8
  go_wp2_with ((go_at_call 10; refine (HQ.out).mono ?_; rintro e w1 ⟨rfl, hb⟩))
  obtain ⟨bm, hbm⟩ : ∃ bm, bm = w1.heap.size := ⟨_, rfl⟩
  obtain ⟨r, hrr⟩ : ∃ r, r = w1.heap.size + 1 := ⟨_, rfl⟩
  have hM : MapAt ((w1.alloc (.map #[] 0)).alloc (.cells #[.int .i64 aw, .int .i64 ww, .map (some bm)] 47)) bm [] := by
    rw [hbm]
    exact MapAt.of ((World.ownsMap_made w1 _ _ _).alloc _)
  have hB : Blk ((w1.alloc (.map #[] 0)).alloc (.cells #[.int .i64 aw, .int .i64 ww, .map (some bm)] 47)) r 47 #[.int .i64 aw, .int .i64 ww, .map (some bm)] := by
    have := Blk.new (w1.alloc (.map #[] 0)) 47 #[.int .i64 aw, .int .i64 ww, .map (some bm)]
    rw [hrr]
    simpa using this
  have hrel0 : LoadRel r bm aw ww cs 0 w ((w1.alloc (.map #[] 0)).alloc (.cells #[.int .i64 aw, .int .i64 ww, .map (some bm)] 47)) :=
    ⟨⟨hB, by simpa using hM⟩, by have := hb.size; omega, by have := hb.size; omega, (hb.alloc hb.size _).alloc (by have := hb.size; simp; omega) _⟩
  rw [← hbm] 
  have H0 := Lib.hid hrel0
  clear hM hB hrel0
  obtain ⟨w2, hw2⟩ : ∃ w2, w2 = ((w1.alloc (.map #[] 0)).alloc (.cells #[.int .i64 aw, .int .i64 ww, .map (some bm)] 47)) := ⟨_, rfl⟩
  rw [← hw2] at H0 ⊢
  rw [← hbm] at hrr
  rw [← hrr]
  clear hrr hbm hw2 hb
  have HV2 : Hid (cs = [] ∨ ∃ b off, a = some ⟨b, off, none⟩ ∧ b < w.heap.size ∧ ∀ wr, Below w.heap.size w wr → ∀ j, j < cs.length → wr.cell? ⟨b, off + j * 2, none⟩ = some (.int .u64 (cs.getD j (0, 0)).1) ∧ wr.cell? ⟨b, off + j * 2 + 1, none⟩ = some (.int .u64 (cs.getD j (0, 0)).2)) := by
    refine Lib.hid ?_
    rcases HV.out with h | ⟨b, off, h1, h2, h3⟩
    · exact .inl h
    · refine .inr ⟨b, off, h1, h2, fun wr hwr j hj => ?_⟩
      have e := hwr.block b h2
      exact ⟨by rw [World.cell?_of_block (w := w) e]; exact (h3 j hj).1, by rw [World.cell?_of_block (w := w) e]; exact (h3 j hj).2⟩
  clear HV HQ
  go_loopw [23] (fun i wr => ∃ k : Nat, k ≤ n ∧ i = .int .i64 k ∧ LoadRel r bm aw ww cs k w wr) (fun i _ => n - (intOf i).toNat)
  case atStart => exact ⟨0, Nat.zero_le _, rfl, H0.out⟩
  case round =>
    obtain ⟨k, hk, rfl, hrel⟩ := hrel
    by_cases hlt : (k : Int) < (n : Int)
    · have hkn : k < cs.length := by have := HN.out; omega
      have hne : cs ≠ [] := fun e => by rw [e] at hkn; simp at hkn
      obtain ⟨b, off, rfl, hbl, hcell⟩ := HV2.out.resolve_left hne
      obtain ⟨q1, q2⟩ := hcell wr hrel.2.2.2 k hkn
      obtain ⟨hxw, huw⟩ := wf_getD HW.out k
      have htp := take_put HT.out hkn
      obtain ⟨x, hx⟩ : ∃ x, x = (cs.getD k (0, 0)).1 := ⟨_, rfl⟩
      obtain ⟨u, hu⟩ : ∃ u, u = (cs.getD k (0, 0)).2 := ⟨_, rfl⟩
      rw [← hx] at q1 hxw htp
      rw [← hu] at q2 huw htp
      have ht : (cs.take k).length = k := by simp; omega
      have hA : RamAt (wr.alloc (.cells #[.int .u64 x, .int .u64 u] 49)).drew r bm aw ww (cs.take k) := hrel.1.chg (S := fun _ => False) (((Chg.refl _ wr).alloc _).drew) (fun h => h) (fun h => h)
      obtain ⟨w3, hrun, hown, hturn⟩ := World.ownsMap.store hA.2 keyedU Try.underlying45 (by rw [ht]; unfold maxLen; omega) (keyOf_int_mk Try.underlying23 (wf_lit hxw)) (plainElem_int Try.underlying23 (wf_lit huw))
      have c2 : (wr.alloc (.cells #[.int .u64 x, .int .u64 u] 49)).cell? ⟨r, 2, none⟩ = some (.map (some bm)) := hA.cells.c2
      have hA3 : RamAt w3 r bm aw ww (cs.take (k + 1)) := by
        have := put_dat (cs.take k) x u ▸ hown
        rw [htp] at this
        exact ⟨hA.1.chg (Chg.turned hturn) (fun e => hA.1.ne_map hA.2 e), MapAt.of this⟩
      have hB3 : Below w.heap.size w w3 := ((hrel.2.2.2.alloc hrel.2.2.2.size _).drew).trans ((Chg.turned hturn).below (by have := hrel.2.2.2.size; simp; omega) (fun i hi => by have := hrel.2.2.1; omega))
      have H3 : Hid (LoadRel r bm aw ww cs (k + 1) w w3) := Lib.hid ⟨hA3, hrel.2.1, hrel.2.2.1, hB3⟩
      have HH := Lib.hid hrel
      clear hA hown hturn hA3 hB3 htp ht hx hu hcell hne hkn hrel hxw huw
      go_wp2
      go_region
      all_goals
        go_wp2
        go_roundw
        case rel => exact ⟨k + 1, by omega, by go_num, H3.out⟩
        case measure => simp [intOf]; omega
    · have hkn : k = n := by omega
      have HZ : Hid (LoadRel r bm aw ww cs n w wr) := Lib.hid (by rw [← hkn]; exact hrel)
      clear hrel hkn
      go_wp2
      go_ret2
      exact ⟨r, rfl, bm, HZ.out⟩
end Go.Proofs.Ytpohekmfdbleeaa
