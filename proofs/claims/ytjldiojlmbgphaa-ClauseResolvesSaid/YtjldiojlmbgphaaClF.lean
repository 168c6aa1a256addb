/-
  Clauses: Resolve, and the reference's.
-/
import Derived.Test.YtjldiojlmbgphaaClE
namespace Go.Proofs.Ytjldiojlmbgphaa
open Go.ChangeShapes Go.WideShapes Go.ChangeAt Go.RowKit
open Go.Sort (Holds grow putRow)
set_option linter.unusedVariables false
def without (c : List Int) (x : Int) : List Int := c.filter fun y => !(y == x)
theorem without_closure {w : World} {bx : Nat} {x : Int} (h : w.cell? ⟨bx, 0, none⟩ = some (.int .i64 x)) (y : Int) : Calls Try.prog 28 #[.int .i64 y, .pointer (some ⟨bx, 0, none⟩)] w fun e w' => e = .returned (.bool (y == x)) ∧ w = w' := by
  go_enter Try.func28, Try.ntmps28
  go_wp2
  go_ret
  exact ⟨rfl, rfl⟩
theorem del_some {w wr : World} {g cap bx : Nat} {x : Int} {cur : Array Value} {xs : List Int} (hbox : wr.heap[bx]? = some (.cells #[.int .i64 x] 3 (0, 0))) (hne : bx ≠ g) (hb : Below w.heap.size w wr) (hg : w.heap.size ≤ g) (h : wr.heap[g]? = some (.cells cur 3 (0, 0))) (h1 : xs.length ≤ cap) (h2 : cap ≤ maxLen) (h3 : cur.size = cap * 1) (h4 : cur.toList.take xs.length = xs.map (Value.int .i64)) (hs : xs.length ≤ 9223372036854775807) :
    Calls Try.prog 26 #[.slice (some ⟨g, 0, none⟩) xs.length cap, .func (.func 28) #[] #[.pointer (some ⟨bx, 0, none⟩)]] wr fun e w' => ∃ u, e = .returned u ∧ OwnI w w' u (without xs x) := by
  have eg : ∀ args w, (callFunc 28 args).run Try.prog w = .ok (.enter 28 args) w := enters_of Try.func28 (by kernel_rfl) rfl
  have hB : Blk wr bx 3 #[.int .i64 x] := hbox
  have hH : Holds (Value.int .i64) wr g 0 xs.toArray := holds_of_blockI h h4
  have hp : PredAt Try.prog 28 #[.pointer (some ⟨bx, 0, none⟩)] (Value.int .i64) (fun y => y == x) wr := fun W y hW =>
    (without_closure ((hB.below hW hB.lt).cell 0) y).mono fun e w' ⟨q1, q2⟩ => ⟨q1, 0, q2.symm⟩
  have hpo : PredOver Try.prog 28 #[.pointer (some ⟨bx, 0, none⟩)] (Value.int .i64) (fun y => y == x) g 0 xs.toArray.size wr := fun n os dk y hsz => by
    have hc : Chg (fun k => k = g) wr (sortWorld (Value.int .i64) wr g 0 n dk os) := Chg.of_grown (grownBy_sortedI dk) (fun k hk => by injection hk with hk; exact hk.symm)
    exact (without_closure ((hB.chg hc hne).cell 0) y).mono fun e w' ⟨q1, q2⟩ => ⟨q1, 0, q2.symm⟩
  have hcon := AnyE.slices_DeleteFunc Try.delF (Value.int .i64) (fun _ => rfl) (fun y => y == x) 28 #[.pointer (some ⟨bx, 0, none⟩)] eg 0 (fun w => by kernel_rfl) g 0 cap xs.toArray wr hp hpo hH (by simpa using hs) (by simpa using h1)
  rw [show xs.toArray.size = xs.length by simp] at hcon
  refine hcon.mono fun e w' ⟨he, q, hw⟩ => ⟨_, he, ?_⟩
  subst hw
  have hf : (xs.toArray.toList.filter fun y => !(y == x)) = without xs x := rfl
  rw [hf]
  have hle : (without xs x).length ≤ xs.length := List.length_filter_le _ _
  have ht := OwnI.turned (os := #[]) (n := q) (ts := without xs x ++ List.replicate (xs.length - (without xs x).length) 0) hb hg h (by simp; omega) h1 h2 h3
  rw [Go.Sort.grow_empty] at ht
  obtain ⟨⟨hl, hr⟩, hbb, hgg⟩ := ht
  refine ⟨?_, hbb, fun k hk => hgg k (by simpa [Value.ownBlock] using hk)⟩
  have hlen : (without xs x ++ List.replicate (xs.length - (without xs x).length) 0).length = xs.length := by simp; omega
  rw [hlen] at hl hr
  have := Row.take (w := _) ⟨hl, hr⟩ (without xs x).length hle
  rw [Nat.mul_one, ← List.map_take, List.take_left] at this
  exact this
set_option maxHeartbeats 1000000 in
theorem cl_without {w : World} {v : Value} {c : List Int} (h : Ints w v c) (hne : c ≠ []) (hs : c.length ≤ 1000000) (x : Int) :
    Calls Try.prog 25 #[v, .int .i64 x] w fun e w' => ∃ u, e = .returned u ∧ OwnI w w' u (without c x) := by
  have hB1 : Below w.heap.size w (w.alloc (.cells #[.int .i64 x] 3)) := (Below.refl _ _).alloc (Nat.le_refl _) _
  have HC := Lib.hid (slices_Clone (h.below hB1) (by omega))
  have HB1 := Lib.hid hB1
  have HNE := Lib.hid hne
  have HS := Lib.hid hs
  clear h hB1 hne hs
  go_enter Try.func25, Try.ntmps25
  go_wp2_with fail
  refine HC.out.mono ?_
  rintro e w2 ⟨u, rfl, hc⟩
  have hO : OwnI (w.alloc (.cells #[.int .i64 x] 3)) w2 u c := ⟨hc.1, hc.2.2, hc.2.1⟩
  rcases hO.form2 with ⟨-, e⟩ | ⟨g, cap, cur, rfl, hg, hb, h1, h2, h3, h4⟩
  · exact absurd e HNE.out
  · have hbox : w2.heap[w.heap.size]? = some (.cells #[.int .i64 x] 3 (0, 0)) := (hO.2.1.block w.heap.size (by simp)).trans (heap_alloc_new w _)
    have hg' : w.heap.size + 1 ≤ g := by simpa using hg
    have hD := del_some (w := w) (x := x) hbox (by omega) (HB1.out.trans (hO.2.1.mono HB1.out.size)) (by omega) hb h1 h2 h3 h4 (by have := HS.out; omega)
    have HD := Lib.hid hD
    obtain ⟨n, hn⟩ : ∃ n, n = c.length := ⟨_, rfl⟩
    rw [← hn] at HD ⊢
    clear hO hc hbox hg' hD hg hb h1 h2 h3 h4 hn HC
    go_wp2_with ((go_at_call 26; refine (HD.out).mono ?_; rintro e w3 ⟨u, rfl, ho⟩))
    have HO := Lib.hid ho
    clear ho
    go_ret
    exact ⟨u, rfl, HO.out⟩
def resB (a b : List Int) (v : Int) : Bool := decide (1 ≤ v) && a.contains v && b.contains (-v)
def resC (a b : List Int) (v : Int) : List Int := normC (without a v ++ without b (-v))
theorem clause_without {c : List Int} (h : ClauseL c) (x : Int) : ClauseL (without c x) := fun y hy => h y (List.mem_filter.1 hy).1
theorem clause_app {a b : List Int} (h : ClauseL a) (g : ClauseL b) : ClauseL (a ++ b) := fun y hy => (List.mem_append.1 hy).elim (h y) (g y)
theorem len_without (c : List Int) (x : Int) : (without c x).length ≤ c.length := List.length_filter_le _ _
set_option maxHeartbeats 1000000 in
theorem cl_Resolve_no {w : World} {u v : Value} {a b : List Int} (ha : Ints w u a) (hb : Ints w v b) (x : Int) (hx : small x) (hr : resB a b x = false) :
    Calls Try.prog 10 #[u, v, .int .i64 x] w fun e w' => e = .returned (.tuple #[.slice none 0 0, .bool false]) ∧ w = w' := by
  obtain ⟨x0, x1⟩ := hx
  obtain ⟨p, hp⟩ : ∃ p, p = a.contains x := ⟨_, rfl⟩
  obtain ⟨q, hq⟩ : ∃ q, q = b.contains (-x) := ⟨_, rfl⟩
  have h1 := slices_Has ha x
  have h2 := slices_Has hb (-x)
  unfold resB at hr
  rw [← hp, ← hq] at hr
  rw [← hp] at h1
  rw [← hq] at h2
  have H1 := Lib.hid h1
  have H2 := Lib.hid h2
  clear h1 h2 hp hq ha hb
  by_cases h0 : 1 ≤ x
  · have c1 : decide (x < 1) = false := decide_eq_false (by omega)
    rw [decide_eq_true h0, Bool.true_and] at hr
    cases p
    · clear hr
      go_enter Try.func10, Try.ntmps10
      go_wp2_with ((go_at_call 24; refine (H1.out).mono ?_; rintro e w' ⟨rfl, rfl⟩))
      go_ret2
      exact ⟨rfl, rfl⟩
    · rw [Bool.true_and] at hr
      subst hr
      go_enter Try.func10, Try.ntmps10
      go_wp2_with fail
      refine H1.out.mono ?_
      rintro e w1 ⟨rfl, rfl⟩
      go_wp2_with ((go_at_call 24; refine (H2.out).mono ?_; rintro e w' ⟨rfl, rfl⟩))
      go_ret2
      exact ⟨rfl, rfl⟩
  · have c1 : x < 1 := by omega
    clear hr h0
    go_enter Try.func10, Try.ntmps10
    go_wp2
    go_ret2
    exact ⟨rfl, rfl⟩
def ResPost (w w' : World) (u : Value) (l : List Int) : Prop := OwnI w w' u l
set_option maxHeartbeats 2000000 in
theorem cl_Resolve_yes {w : World} {u v : Value} {a b : List Int} (ha : Ints w u a) (hb : Ints w v b) (hca : ClauseL a) (hcb : ClauseL b) (hla : a.length ≤ 1000) (hlb : b.length ≤ 1000) (x : Int) (hx : small x) (hr : resB a b x = true) :
    Calls Try.prog 10 #[u, v, .int .i64 x] w fun e w' => ∃ z, e = .returned (.tuple #[z, .bool true]) ∧ ResPost w w' z (resC a b x) := by
  obtain ⟨x0, x1⟩ := hx
  have h1 := slices_Has ha x
  have h2 := slices_Has hb (-x)
  unfold resB at hr
  rw [Bool.and_eq_true, Bool.and_eq_true, decide_eq_true_eq] at hr
  obtain ⟨⟨h0, hr1⟩, hr2⟩ := hr
  have hna : a ≠ [] := fun e => by rw [e] at hr1; simp at hr1
  have hnb : b ≠ [] := fun e => by rw [e] at hr2; simp at hr2
  rw [hr1] at h1
  rw [hr2] at h2
  have H1 := Lib.hid h1
  have H2 := Lib.hid h2
  have W1 := Lib.hid (cl_without ha hna (by omega) x)
  have HB := Lib.hid hb
  have HNB := Lib.hid hnb
  have HCC : Hid (ClauseL (without a x ++ without b (-x))) := Lib.hid (clause_app (clause_without hca x) (clause_without hcb (-x)))
  have HLL : Hid ((without a x).length ≤ 1000 ∧ (without b (-x)).length ≤ 1000 ∧ b.length ≤ 1000) := Lib.hid ⟨Nat.le_trans (len_without a x) hla, Nat.le_trans (len_without b (-x)) hlb, hlb⟩
  have HRC : Hid (normC (without a x ++ without b (-x)) = resC a b x) := Lib.hid rfl
  clear h1 h2 hr1 hr2 hna hnb ha hb hca hcb hla hlb
  go_enter Try.func10, Try.ntmps10
  go_wp2_with fail
  refine H1.out.mono ?_
  rintro e w1 ⟨rfl, rfl⟩
  go_wp2_with fail
  refine H2.out.mono ?_
  rintro e w1 ⟨rfl, rfl⟩
  go_wp2_with fail
  refine W1.out.mono ?_
  rintro e w1 ⟨u1, rfl, ho1⟩
  have HO1 := Lib.hid ho1
  have W2 := Lib.hid (cl_without (HB.out.below ho1.2.1) HNB.out (by have := HLL.out; omega) (-x))
  clear ho1
  go_wp2_with fail
  refine W2.out.mono ?_
  rintro e w2 ⟨u2, rfl, ho2⟩
  obtain ⟨A2, cap2, rfl, -, -⟩ := ho2.form
  have HO2 := Lib.hid ho2
  have HP := Lib.hid (HO1.out.below ho2.2.1)
  obtain ⟨m, hm⟩ : ∃ m, m = (without b (-x)).length := ⟨_, rfl⟩
  rw [← hm] at HO2 ⊢
  have HM := Lib.hid hm
  clear ho2 hm W1 W2
  go_wp2_with (at_builtin; refine wpList_I (w := w) rfl _ _ rfl u1 (without a x) rfl A2 m cap2 (without b (-x)) rfl HM.out.symm (by have := HLL.out; have := HM.out; omega) HP.out (by rw [HM.out]; exact HO2.out.1.src) ?_; intro v3 w3 h3; have H3 := Lib.hid h3; clear h3)
  refine (cl_Norm H3.out.ints HCC.out (by rw [List.length_append]; have := HLL.out; omega)).mono ?_
  rintro e w4 ⟨z, rfl, hz⟩
  rw [NormPost, HRC.out] at hz
  have HZ := Lib.hid (hz.from_ H3.out.2.1)
  clear hz
  go_wp2_with fail
  go_ret2
  exact ⟨z, rfl, HZ.out⟩
end Go.Proofs.Ytjldiojlmbgphaa
