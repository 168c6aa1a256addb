/-
  Package watch: is, Clause, Len; one number goes from a list.
-/
import Derived.Test.YtkaklgjdmlddmaaWaH
import Derived.Test.YtkaklgjdmlddmaaOwnB
import Derived.Test.YtkaklgjdmlddmaaShelf
namespace Go.Proofs.Ytkaklgjdmlddmaa
open Go.ChangeShapes Go.WideShapes Go.ChangeAt Go.RowKit
open Go.Sort (Holds grow putRow)
set_option linter.unusedVariables false
def isB (S : WS) (id : Int) : Bool := decide (0 ≤ id ∧ id < (S.cl.length : Int)) && !(S.cl.getD id.toNat []).isEmpty
theorem is_nil (id : Int) (w : World) : Calls Try.prog 41 #[.pointer none, .int .i64 id] w fun e w' => e = .returned (.bool false) ∧ w = w' := by
  go_enter Try.func41, Try.ntmps41
  go_wp2
  go_ret
  exact ⟨rfl, rfl⟩
theorem row_formL {w : World} {v : Value} {n : Nat} {us : List Value} (h : Row w 23 1 v n us) : ∃ a cap, v = .slice a n cap := by
  rcases h.form with ⟨rfl, h0, -⟩ | ⟨g, cap, rfl, -⟩
  · exact ⟨_, _, by rw [h0]⟩
  · exact ⟨_, _, rfl⟩
set_option maxHeartbeats 1000000 in
theorem is_ {B : Nat} {w : World} {r : Nat → Nat} {wb t : Nat} {S : WS} {vl vs vd : Value} {us xs : List Value} (h : WV B w r wb t S vl vs vd us xs) (id : Int) :
    Calls Try.prog 41 #[.pointer (some ⟨wb, 0, none⟩), .int .i64 id] w fun e w' => e = .returned (.bool (isB S id)) ∧ w = w' := by
  have c1 := h.cells.c1
  obtain ⟨la, lc, rfl⟩ := row_formL h.cl
  by_cases h0 : id < 0
  · have e : isB S id = false := by unfold isB; rw [decide_eq_false (by omega)]; rfl
    rw [e]
    clear e h
    obtain ⟨n, hn⟩ : ∃ n, n = S.cl.length := ⟨_, rfl⟩
    rw [← hn] at c1
    clear hn
    go_enter Try.func41, Try.ntmps41
    go_wp2
    go_ret
    exact ⟨rfl, rfl⟩
  · by_cases h1 : (S.cl.length : Int) ≤ id
    · have e : isB S id = false := by unfold isB; rw [decide_eq_false (by omega)]; rfl
      rw [e]
      have h0' : 0 ≤ id := by omega
      clear e h h0
      obtain ⟨n, hn⟩ : ∃ n, n = S.cl.length := ⟨_, rfl⟩
      rw [← hn] at c1 h1
      clear hn
      go_enter Try.func41, Try.ntmps41
      go_wp2
      go_ret
      exact ⟨rfl, rfl⟩
    · obtain ⟨i, rfl⟩ : ∃ i : Nat, id = (i : Int) := ⟨id.toNat, by omega⟩
      have hi : i < S.cl.length := by omega
      obtain ⟨g, cap, hv, x0, -, -, -⟩ := row_at1 h.cl hi
      injection hv with e1 e2 e3
      subst e1
      obtain ⟨gu, hu, -⟩ := h.ui i hi
      have he : isB S (i : Int) = !(S.cl.getD i []).isEmpty := by unfold isB; rw [decide_eq_true (by omega)]; rfl
      rw [he]
      obtain ⟨n, hn⟩ : ∃ n, n = S.cl.length := ⟨_, rfl⟩
      rw [← hn] at c1 hi
      have i0 : (0 : Int) ≤ (i : Int) := by omega
      have i1 : (i : Int) < (n : Int) := by omega
      cases hc : S.cl.getD i [] with
      | nil =>
        have hun := hu.2 hc
        rw [hun] at x0
        have hq := fun W => run_neq_slice_nil_any (P := Try.prog) W 23 3 none 0 0 0 0 Try.underlying23
        clear h hu he hn e2 e3 hc hun h0 h1
        go_enter Try.func41, Try.ntmps41
        go_wp2
        go_ret
        exact ⟨rfl, rfl⟩
      | cons y ys =>
        obtain ⟨b, cap', hv', -, -, -⟩ := hu.1.at_ (j := 0) (by rw [hc]; simp)
        rw [hv'] at x0
        obtain ⟨m, hm⟩ : ∃ m, m = (S.cl.getD i []).length := ⟨_, rfl⟩
        rw [← hm] at x0
        have hq := fun W => run_neq_slice_nil_any (P := Try.prog) W 23 3 (some ⟨b, 0, none⟩) m cap' 0 0 Try.underlying23
        clear h hu he hn e2 e3 hc hm hv' h0 h1
        go_enter Try.func41, Try.ntmps41
        go_wp2
        go_ret
        exact ⟨rfl, rfl⟩
theorem Len_nil (w : World) : Calls Try.prog 20 #[.pointer none] w fun e w' => e = .returned (.int .i64 0) ∧ w = w' := by
  go_enter Try.func20, Try.ntmps20
  go_wp2
  go_ret
  exact ⟨rfl, rfl⟩
theorem Len_ {B : Nat} {w : World} {r : Nat → Nat} {wb t : Nat} {S : WS} (h : WAt B w r wb t S) : Calls Try.prog 20 #[.pointer (some ⟨wb, 0, none⟩)] w fun e w' => e = .returned (.int .i64 S.cl.length) ∧ w = w' := by
  obtain ⟨vl, vs, vd, us, xs, h⟩ := h
  have c1 := h.cells.c1
  obtain ⟨la, lc, rfl⟩ := row_formL h.cl
  obtain ⟨n, hn⟩ : ∃ n, n = S.cl.length := ⟨_, rfl⟩
  rw [← hn] at c1 ⊢
  clear h hn
  go_enter Try.func20, Try.ntmps20
  go_wp2
  go_ret
  exact ⟨rfl, rfl⟩
theorem Clause_nil (id : Int) (w : World) : Calls Try.prog 17 #[.pointer none, .int .i64 id] w fun e w' => e = .returned (.slice none 0 0) ∧ w = w' := by
  go_enter Try.func17, Try.ntmps17
  go_wp2_with ((go_at_call 41; refine (is_nil _ _).mono ?_; rintro e w' ⟨rfl, rfl⟩))
  go_ret
  exact ⟨rfl, rfl⟩
theorem Clause_no {B : Nat} {w : World} {r : Nat → Nat} {wb t : Nat} {S : WS} (h : WAt B w r wb t S) (id : Int) (hi : isB S id = false) : Calls Try.prog 17 #[.pointer (some ⟨wb, 0, none⟩), .int .i64 id] w fun e w' => e = .returned (.slice none 0 0) ∧ w = w' := by
  obtain ⟨vl, vs, vd, us, xs, h⟩ := h
  have HI := Lib.hid (is_ h id)
  rw [hi] at HI
  clear h hi
  go_enter Try.func17, Try.ntmps17
  go_wp2_with ((go_at_call 41; refine (HI.out).mono ?_; rintro e w' ⟨rfl, rfl⟩))
  go_ret
  exact ⟨rfl, rfl⟩
theorem Clause_yes {B : Nat} {w : World} {r : Nat → Nat} {wb t : Nat} {S : WS} (h : WAt B w r wb t S) (i : Nat) (hi : isB S (i : Int) = true) (hs : (S.cl.getD i []).length ≤ 1000) : Calls Try.prog 17 #[.pointer (some ⟨wb, 0, none⟩), .int .i64 i] w fun e w' => ∃ u, e = .returned u ∧ ClonePost w (S.cl.getD i []) u w' := by
  obtain ⟨vl, vs, vd, us, xs, h⟩ := h
  have HI := Lib.hid (is_ h i)
  rw [hi] at HI
  have c1 := h.cells.c1
  have hil : i < S.cl.length := by
    unfold isB at hi
    rw [Bool.and_eq_true] at hi
    have := of_decide_eq_true hi.1
    omega
  obtain ⟨g, cap, rfl, x0, -, -, -⟩ := row_at1 h.cl hil
  obtain ⟨gu, hu, -⟩ := h.ui i hil
  have HC := Lib.hid (slices_Clone hu.1.ints (by omega))
  obtain ⟨va, vc, hv, -, -⟩ := hu.1.form
  rw [hv] at x0 HC
  obtain ⟨m, hm⟩ : ∃ m, m = (S.cl.getD i []).length := ⟨_, rfl⟩
  rw [← hm] at x0 HC
  obtain ⟨n, hn⟩ : ∃ n, n = S.cl.length := ⟨_, rfl⟩
  rw [← hn] at c1 hil
  have i0 : (0 : Int) ≤ (i : Int) := by omega
  have i1 : (i : Int) < (n : Int) := by omega
  clear h hi hu hv hm hn hs
  go_enter Try.func17, Try.ntmps17
  go_wp2_with (first | (go_at_call 41; refine (HI.out).mono ?_; rintro e w' ⟨rfl, rfl⟩) | (go_at_call 40; refine (HC.out).mono ?_; rintro e w1 ⟨u, rfl, hp⟩))
  go_ret
  exact ⟨u, rfl, hp⟩
/-! ### one number goes -/
def without (c : List Int) (x : Int) : List Int := c.filter fun y => !(y == x)
theorem without_closure {w : World} {bx : Nat} {x : Int} (h : w.cell? ⟨bx, 0, none⟩ = some (.int .i64 x)) (y : Int) : Calls Try.prog 43 #[.int .i64 y, .pointer (some ⟨bx, 0, none⟩)] w fun e w' => e = .returned (.bool (y == x)) ∧ w = w' := by
  go_enter Try.func43, Try.ntmps43
  go_wp2
  go_ret
  exact ⟨rfl, rfl⟩
theorem del_LR {wr : World} {g cap bx : Nat} {x : Int} {xs : List Int} (h : LR wr (.slice (some ⟨g, 0, none⟩) xs.length cap) xs (some g)) (hbox : Blk wr bx 3 #[.int .i64 x]) (hne : bx ≠ g) (hs : xs.length ≤ 9223372036854775807) :
    Calls Try.prog 42 #[.slice (some ⟨g, 0, none⟩) xs.length cap, .func (.func 43) #[] #[.pointer (some ⟨bx, 0, none⟩)]] wr fun e w' => ∃ u, e = .returned u ∧ LR w' u (without xs x) (some g) ∧ Chg (fun k => k = g) wr w' := by
  rcases h with ⟨⟨hl, h⟩, -⟩ | ⟨-, h, -⟩
  · rcases h with ⟨h, -⟩ | ⟨g', cap', cur, hv, h0, h1, h2, h3, h4, h5⟩
    · cases h
    · injection hv with e1 e2 e3
      injection e1 with e1
      injection e1 with e1
      subst e1 e3
      rw [Nat.mul_one] at h5
      have eg : ∀ args w, (callFunc 43 args).run Try.prog w = .ok (.enter 43 args) w := enters_of Try.func43 (by kernel_rfl) rfl
      have hH : Holds (Value.int .i64) wr g 0 xs.toArray := holds_of_blockI h1 h5
      have hp : PredAt Try.prog 43 #[.pointer (some ⟨bx, 0, none⟩)] (Value.int .i64) (fun y => y == x) wr := fun W y hW =>
        (without_closure ((hbox.below hW hbox.lt).cell 0) y).mono fun e w' ⟨q1, q2⟩ => ⟨q1, 0, q2.symm⟩
      have hpo : PredOver Try.prog 43 #[.pointer (some ⟨bx, 0, none⟩)] (Value.int .i64) (fun y => y == x) g 0 xs.toArray.size wr := fun n os dk y hsz => by
        have hc : Chg (fun k => k = g) wr (sortWorld (Value.int .i64) wr g 0 n dk os) := Chg.of_grown (grownBy_sortedI dk) (fun k hk => by injection hk with hk; exact hk.symm)
        exact (without_closure ((hbox.chg hc hne).cell 0) y).mono fun e w' ⟨q1, q2⟩ => ⟨q1, 0, q2.symm⟩
      have hcon := AnyE.slices_DeleteFunc Try.delF (Value.int .i64) (fun _ => rfl) (fun y => y == x) 43 #[.pointer (some ⟨bx, 0, none⟩)] eg 0 (fun w => by kernel_rfl) g 0 cap xs.toArray wr hp hpo hH (by simpa using hs) (by simpa using h2)
      rw [show xs.toArray.size = xs.length by simp] at hcon
      refine hcon.mono fun e w' ⟨he, q, hw⟩ => ⟨_, he, ?_⟩
      subst hw
      have hf : (xs.toArray.toList.filter fun y => !(y == x)) = without xs x := rfl
      rw [hf]
      have hle : (without xs x).length ≤ xs.length := List.length_filter_le _ _
      have hc : Chg (fun k => k = g) wr (sortWorld (Value.int .i64) wr g 0 q (without xs x ++ List.replicate (xs.length - (without xs x).length) 0).toArray #[]) := Chg.of_grown (grownBy_sortedI _) (fun k hk => by injection hk with hk; exact hk.symm)
      have hr := ownsRow_sortedI (w := wr) (base := 0) (g := g) (cap := cap) (n := q) (e := 3) (os := #[]) (cur := cur) (ss := xs) (ts := without xs x ++ List.replicate (xs.length - (without xs x).length) 0) (by simp; omega) (Nat.zero_le _) h1 h2 h3 h4
      rw [Go.Sort.grow_empty] at hr
      refine ⟨.inl ⟨?_, rfl⟩, ?_⟩
      · have hlen : (without xs x ++ List.replicate (xs.length - (without xs x).length) 0).length = xs.length := by simp; omega
        have := Row.take (w := _) (g := g) (cm := cap) hr (without xs x).length hle
        rw [Nat.mul_one, ← List.map_take, List.take_left] at this
        exact this
      · have := hc
        unfold sortWorld at this
        rw [Go.Sort.grow_empty] at this
        exact this
  · cases h
end Go.Proofs.Ytkaklgjdmlddmaa
