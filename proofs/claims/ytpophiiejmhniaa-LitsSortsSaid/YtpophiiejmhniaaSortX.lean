/-
  lits.Sort by the shelf's contracts.
-/
import Derived.Test.YtpophiiejmhniaaSortW
import Derived.Test.YtpophiiejmhniaaShelf
import Derived.Sort.OwnSortedInts
namespace Go.Proofs.Ytpophiiejmhniaa
open Go.ChangeShapes Go.WideShapes Go.ChangeAt Go.RowKit
open Go.Sort (Holds grow putRow)
set_option linter.unusedVariables false
theorem OwnI.form2 {w wr : World} {out : Value} {xs : List Int} (h : OwnI w wr out xs) : (out = .slice none 0 0 ∧ xs = []) ∨ ∃ g cap cur, out = .slice (some ⟨g, 0, none⟩) xs.length cap ∧ w.heap.size ≤ g ∧ wr.heap[g]? = some (.cells cur 3 (0, 0)) ∧ xs.length ≤ cap ∧ cap ≤ maxLen ∧ cur.size = cap * 1 ∧ cur.toList.take xs.length = xs.map (Value.int .i64) := by
  obtain ⟨⟨hl, h⟩, hb, hg⟩ := h
  rcases h with ⟨rfl, h0⟩ | ⟨g, cap, cur, rfl, h0, h1, h2, h3, h4, h5⟩
  · exact .inl ⟨rfl, List.eq_nil_of_length_eq_zero (by simpa using h0)⟩
  · exact .inr ⟨g, cap, cur, rfl, hg g rfl, h1, h2, h3, h4, by rw [Nat.mul_one] at h5; exact h5⟩
/-- A row of the call's own whose cells have been turned. -/
theorem OwnI.turned {w wr : World} {g cap n : Nat} {os : Array Obj} {cur : Array Value} {xs ts : List Int} (hb : Below w.heap.size w wr) (hg : w.heap.size ≤ g) (h : wr.heap[g]? = some (.cells cur 3 (0, 0))) (hl : ts.length = xs.length) (h1 : xs.length ≤ cap) (h2 : cap ≤ maxLen) (h3 : cur.size = cap * 1) :
    OwnI w (grow (putRow (Value.int .i64) (Go.Sort.ahead wr n) g 0 ts.toArray) os) (.slice (some ⟨g, 0, none⟩) xs.length cap) ts := by
  refine ⟨?_, ?_, fun k hk => by simp [Value.ownBlock] at hk; omega⟩
  · have := ownsRow_sortedI (w := wr) (base := 0) (g := g) (cap := cap) (n := n) (e := 3) (os := os) (cur := cur) (ss := xs) (ts := ts) hl (Nat.zero_le _) h h1 h2 h3
    rw [hl]
    exact this
  · have := Chg.of_grown (S := fun k => k = g) (grownBy_sortedI (w := wr) (g := g) (n := n) (os := os) ts.toArray) (fun k hk => by injection hk with hk; exact hk.symm)
    exact hb.trans (this.below hb.size (fun i hi => by omega))
theorem sort_none (A : Option Addr) (cap : Nat) (w : World) : Calls Try.prog 28 #[.slice A 0 cap] w fun e w' => e = .returned (.tuple #[]) ∧ w = w' :=
  (Any.slices_Sort_int_none Try.sortI A cap w).mono fun e w' h => ⟨h.1, h.2.symm⟩
theorem comp_none (A : Option Addr) (cap : Nat) (w : World) : Calls Try.prog 29 #[.slice A 0 cap] w fun e w' => e = .returned (.slice A 0 cap) ∧ w = w' :=
  (Any.slices_Compact_int_empty Try.compI A cap w).mono fun e w' h => ⟨h.1, h.2.symm⟩
theorem sort_some {w wr : World} {g cap : Nat} {cur : Array Value} {xs : List Int} (hb : Below w.heap.size w wr) (hg : w.heap.size ≤ g) (h : wr.heap[g]? = some (.cells cur 3 (0, 0))) (h1 : xs.length ≤ cap) (h2 : cap ≤ maxLen) (h3 : cur.size = cap * 1) (h4 : cur.toList.take xs.length = xs.map (Value.int .i64)) (hs : xs.length < 4611686018427387904) :
    Calls Try.prog 28 #[.slice (some ⟨g, 0, none⟩) xs.length cap] wr fun e w' => e = .returned (.tuple #[]) ∧ OwnI w w' (.slice (some ⟨g, 0, none⟩) xs.length cap) (xs.mergeSort fun x y => decide (x ≤ y)) := by
  have hlt : g < wr.heap.size := (Array.getElem?_eq_some_iff.1 h).1
  have hH : Holds (Value.int .i64) wr g 0 xs.toArray := holds_of_blockI h h4
  exact (Any.slices_Sort_int Try.sortI g 0 cap xs wr hH hlt hs).mono fun e w' ⟨he, n, os, hw⟩ => ⟨he, by rw [hw]; exact OwnI.turned hb hg h (by simp) h1 h2 h3⟩
theorem comp_some {w wr : World} {g cap : Nat} {cur : Array Value} {xs : List Int} (hb : Below w.heap.size w wr) (hg : w.heap.size ≤ g) (h : wr.heap[g]? = some (.cells cur 3 (0, 0))) (h1 : xs.length ≤ cap) (h2 : cap ≤ maxLen) (h3 : cur.size = cap * 1) (h4 : cur.toList.take xs.length = xs.map (Value.int .i64)) (hs : xs.length ≤ 9223372036854775807) :
    Calls Try.prog 29 #[.slice (some ⟨g, 0, none⟩) xs.length cap] wr fun e w' => ∃ u, e = .returned u ∧ OwnI w w' u (Lib.compact xs) := by
  have hH : Holds (Value.int .i64) wr g 0 xs.toArray := holds_of_blockI h h4
  refine (Any.slices_Compact_int Try.compI g 0 cap xs wr hH hs h1).mono fun e w' ⟨he, q, hw⟩ => ⟨_, he, ?_⟩
  subst hw
  have hle := Lib.compact_length_le xs
  have ht := OwnI.turned (os := #[]) (n := q) (ts := Lib.compact xs ++ List.replicate (xs.length - (Lib.compact xs).length) 0) hb hg h (by simp; omega) h1 h2 h3
  rw [Go.Sort.grow_empty] at ht
  obtain ⟨⟨hl, hr⟩, hbb, hgg⟩ := ht
  refine ⟨?_, hbb, fun k hk => hgg k (by simpa [Value.ownBlock] using hk)⟩
  have hlen : (Lib.compact xs ++ List.replicate (xs.length - (Lib.compact xs).length) 0).length = xs.length := by simp; omega
  rw [hlen] at hl hr
  have := Row.take (w := _) ⟨hl, hr⟩ (Lib.compact xs).length hle
  rw [Nat.mul_one, ← List.map_take, List.take_left] at this
  exact this
set_option maxHeartbeats 1000000 in
theorem lits_Sort {w : World} {v : Value} {l : List Int} (h : Ints w v l) (hs : l.length ≤ 1000000) :
    Calls Try.prog 23 #[v] w fun e w' => ∃ u, e = .returned u ∧ Ints w' u (sortR l) ∧ Below w.heap.size w w' := by
  have HI := Lib.hid h
  clear h
  go_enter Try.func23, Try.ntmps23
  go_wp2_with fail
  refine (slices_Clone HI.out (by omega)).mono ?_
  rintro e w1 ⟨u, rfl, hc⟩
  have hO : OwnI w w1 u l := ⟨hc.1, hc.2.2, hc.2.1⟩
  rcases hO.form2 with ⟨rfl, rfl⟩ | ⟨g, cap, cur, rfl, hg, hb, h1, h2, h3, h4⟩
  · have HO := Lib.hid hO.2.1
    clear hc hO hs
    go_wp2_with fail
    refine (sort_none _ _ _).mono ?_
    rintro e w2 ⟨rfl, rfl⟩
    go_wp2_with fail
    refine (comp_none _ _ _).mono ?_
    rintro e w2 ⟨rfl, rfl⟩
    go_wp2_with fail
    go_ret
    exact ⟨_, rfl, ints_nil _, HO.out⟩
  · have HS : Hid (∀ w2, OwnI w w2 (.slice (some ⟨g, 0, none⟩) l.length cap) (l.mergeSort fun x y => decide (x ≤ y)) → ∃ cur2, w2.heap[g]? = some (.cells cur2 3 (0, 0)) ∧ cur2.size = cap * 1 ∧ cur2.toList.take l.length = (l.mergeSort fun x y => decide (x ≤ y)).map (Value.int .i64)) := by
      refine Lib.hid fun w2 h2' => ?_
      rcases h2'.form2 with ⟨e, -⟩ | ⟨g', cap', cur', e, -, a1, -, -, a4, a5⟩
      · cases e
      · injection e with e1 e2 e3
        injection e1 with e1
        injection e1 with e1
        subst e1 e3
        rw [List.length_mergeSort] at a5
        exact ⟨cur', a1, a4, a5⟩
    have HC : Hid ((l.mergeSort fun x y => decide (x ≤ y)).length = l.length) := Lib.hid (by simp)
    have HK : Hid (Lib.compact (l.mergeSort fun x y => decide (x ≤ y)) = sortR l) := Lib.hid (compact_sort l)
    have HO := Lib.hid hO
    have H1 := Lib.hid h1
    have H2 := Lib.hid h2
    have H3 := Lib.hid h3
    have H4 := Lib.hid h4
    have HB := Lib.hid hb
    have HG := Lib.hid hg
    have HL := Lib.hid hs
    clear hc hO h1 h2 h3 h4 hb hg hs
    go_wp2_with fail
    refine (sort_some HO.out.2.1 HG.out HB.out H1.out H2.out H3.out H4.out (by have := HL.out; omega)).mono ?_
    rintro e w2 ⟨rfl, ho⟩
    obtain ⟨cur2, b1, b2, b3⟩ := HS.out w2 ho
    have HO2 := Lib.hid ho.2.1
    have HB1 := Lib.hid b1
    have HB2 := Lib.hid b2
    have HB3 := Lib.hid b3
    clear ho b1 b2 b3 HS
    go_wp2_with fail
    rw [← HC.out]
    refine (comp_some HO2.out HG.out HB1.out (by rw [HC.out]; exact H1.out) H2.out HB2.out (by rw [HC.out]; exact HB3.out) (by rw [HC.out]; have := HL.out; omega)).mono ?_
    rintro e w3 ⟨u, rfl, ho⟩
    rw [HK.out] at ho
    have HO3 := Lib.hid ho
    clear ho
    go_wp2_with fail
    go_ret
    exact ⟨_, rfl, HO3.out.ints, HO3.out.2.1⟩
end Go.Proofs.Ytpophiiejmhniaa
