/-
  The laws of chapter 2, walked.
-/
import Derived.Test.YtbfnfkefahnklaaDoorFaultH
namespace Go.Proofs.YtbfnfkefahnklaaDoor
open Go.RowKit Go.Extern.Stop Go.Stop Go.Extern
set_option linter.unusedVariables false
def LawPost (w : World) (e : Ending) (w' : World) : Prop := e = .returned (.bool true) ∧ Below w.heap.size w w'
theorem lastAt_snoc : ∀ (d a : Int) (l : List (Nat × Int)) (xs : List Int), l.map (·.2) = xs ++ [a] → lastAt d l = a
  | d, a, [], xs, h => by simp at h
  | d, a, (b, c) :: r, [], h => by
    simp at h
    obtain ⟨rfl, h⟩ := h
    subst h
    rfl
  | d, a, (b, c) :: r, x :: xs, h => by
    simp at h
    obtain ⟨rfl, h⟩ := h
    exact lastAt_snoc c a r xs h
theorem Is_yes {w : World} {v : Value} {k o : Int} {l : List (Nat × Int)} (hl : Chain w k l v) (h : o = k) : Calls Tryd.prog 10 #[v, .int .i64 o] w fun ev w' => ev = .returned (.bool true) ∧ w = w' := by
  subst h
  refine (Is_F (o := o) hl).mono ?_
  rintro ev w' ⟨rfl, rfl⟩
  exact ⟨by simp, rfl⟩
theorem Is_no {w : World} {v : Value} {k o : Int} {l : List (Nat × Int)} (hl : Chain w k l v) (h : o ≠ k) : Calls Tryd.prog 10 #[v, .int .i64 o] w fun ev w' => ev = .returned (.bool false) ∧ w = w' := by
  refine (Is_F (o := o) hl).mono ?_
  rintro ev w' ⟨rfl, rfl⟩
  exact ⟨by simp; intro e; exact h e.symm, rfl⟩
theorem Is_nil_yes (w : World) : Calls Tryd.prog 10 #[.nilIface, .int .i64 0] w fun ev w' => ev = .returned (.bool true) ∧ w = w' := Is_nil 0 w
theorem Is_nil_no {o : Int} (h : o ≠ 0) (w : World) : Calls Tryd.prog 10 #[.nilIface, .int .i64 o] w fun ev w' => ev = .returned (.bool false) ∧ w = w' := by
  refine (Is_nil o w).mono ?_
  rintro ev w' ⟨rfl, rfl⟩
  exact ⟨by rw [decide_eq_false h], rfl⟩
set_option maxHeartbeats 1000000 in
theorem tells_long {w : World} (hL : Laid w) (kind other at_ : Int) {a : Option Addr} {n cap : Nat} (h : 30 < n) (hm : n ≤ maxLen) :
    Calls Tryd.prog 3 #[.int .i64 kind, .int .i64 other, .int .i64 at_, .slice a n cap] w (LawPost w) := by
  unfold maxLen at hm
  have HA := Lib.hid (alive_true hL)
  clear hL
  go_enter Tryd.func3, Tryd.ntmps3
  go_wp2_with fail
  refine HA.out.mono ?_
  rintro ev w1 ⟨rfl, hb⟩
  have HB := Lib.hid hb
  clear hb
  go_wp2
  go_ret
  exact ⟨rfl, HB.out⟩
set_option maxHeartbeats 1000000 in
theorem tells_0 {w : World} (hL : Laid w) (other at_ : Int) {v : Value} {over : List Int} (h : Ints w v over) (hs : over.length ≤ 30) :
    Calls Tryd.prog 3 #[.int .i64 0, .int .i64 other, .int .i64 at_, v] w (LawPost w) := by
  have HM := Lib.hid (made_C hL 0 at_ h hs)
  have HL := Lib.hid hL
  obtain ⟨a, cap, rfl, -⟩ := h
  obtain ⟨n, hn⟩ : ∃ n, n = over.length := ⟨_, rfl⟩
  rw [← hn] at HM hs ⊢
  clear hn hL
  go_enter Tryd.func3, Tryd.ntmps3
  go_wp2_with fail
  refine HM.out.mono ?_
  rintro ev w1 ⟨u, rfl, hu, hb1⟩
  rw [if_pos rfl] at hu
  subst hu
  have B1 := Lib.hid hb1
  clear hb1
  go_wp2_with fail
  refine (Told_nil w1).mono ?_
  rintro ev w2 ⟨rfl, hb2⟩
  have B2 := Lib.hid (B1.out.trans (hb2.mono B1.out.size))
  clear hb2
  go_wp2_with fail
  refine (Depth_nil w2).mono ?_
  rintro ev w3 ⟨rfl, hb3⟩
  have B3 := Lib.hid (B2.out.trans (hb3.mono B2.out.size))
  clear hb3
  by_cases ho : other = 0
  · subst ho
    go_wp2_with fail
    refine (Is_nil_yes w3).mono ?_
    rintro ev w4 ⟨rfl, rfl⟩
    go_wp2_with fail
    refine (alive_true (HL.out.below B3.out)).mono ?_
    rintro ev w4 ⟨rfl, hb4⟩
    have B4 := Lib.hid (B3.out.trans (hb4.mono B3.out.size))
    clear hb4
    go_wp2
    go_ret
    exact ⟨rfl, B4.out⟩
  · have ho2 : (other == 0) = false := by simpa using ho
    have HI := Lib.hid (Is_nil_no ho w3)
    clear ho
    go_wp2_with fail
    refine HI.out.mono ?_
    rintro ev w4 ⟨rfl, rfl⟩
    go_wp2_with fail
    refine (alive_true (HL.out.below B3.out)).mono ?_
    rintro ev w4 ⟨rfl, hb4⟩
    have B4 := Lib.hid (B3.out.trans (hb4.mono B3.out.size))
    clear hb4
    go_wp2
    go_ret
    exact ⟨rfl, B4.out⟩
set_option maxHeartbeats 1000000 in
theorem tells_k {w : World} (hL : Laid w) (kind other at_ : Int) (hk : kind ≠ 0) {v : Value} {over : List Int} (h : Ints w v over) (hs : over.length ≤ 30) :
    Calls Tryd.prog 3 #[.int .i64 kind, .int .i64 other, .int .i64 at_, v] w (LawPost w) := by
  have HM := Lib.hid (made_C hL kind at_ h hs)
  have HL := Lib.hid hL
  obtain ⟨a, cap, rfl, -⟩ := h
  obtain ⟨n, hn⟩ : ∃ n, n = over.length := ⟨_, rfl⟩
  rw [← hn] at hs ⊢
  rw [← hn] at HM
  have HN := Lib.hid hn
  have HK := Lib.hid hk
  have hk2 : (kind == 0) = false := by simpa using hk
  clear hn hL hk
  go_enter Tryd.func3, Tryd.ntmps3
  go_wp2_with fail
  refine HM.out.mono ?_
  rintro ev w1 ⟨u, rfl, hu, hb1⟩
  rw [if_neg HK.out] at hu
  obtain ⟨l, hl, hm⟩ := hu
  have hlen : l.length = n + 1 := by have := congrArg List.length hm; simp at this; rw [HN.out]; exact this
  have T1 := Told_C (HL.out.below hb1) hl
  rw [lastAt_snoc (-1) at_ l _ hm] at T1
  have T1 := Lib.hid T1
  have B1 := Lib.hid hb1
  have C1 := Lib.hid hl
  have HLE := Lib.hid hlen
  obtain ⟨ut, ux, hv⟩ := hl.iface
  subst hv
  clear hb1 hm hl hlen
  go_wp2_with fail
  refine T1.out.mono ?_
  rintro ev w2 ⟨rfl, hb2⟩
  have C2 := Lib.hid (C1.out.below hb2)
  have B2 := Lib.hid (B1.out.trans (hb2.mono B1.out.size))
  clear hb2
  have D2 := Depth_C (HL.out.below B2.out) C2.out (by have := HLE.out; omega)
  rw [HLE.out] at D2
  have D2 := Lib.hid D2
  go_wp2_with fail
  refine D2.out.mono ?_
  rintro ev w3 ⟨rfl, hb3⟩
  have C3 := Lib.hid (C2.out.below hb3)
  have B3 := Lib.hid (B2.out.trans (hb3.mono B2.out.size))
  clear hb3
  by_cases ho : other = kind
  · have HI := Lib.hid (Is_yes C3.out ho)
    have ho2 : (other == kind) = true := by simpa using ho
    have hz : ((n : Int) + 1 == ((n + 1 : Nat) : Int)) = true := by simp
    clear ho
    go_wp2_with fail
    refine HI.out.mono ?_
    rintro ev w4 ⟨rfl, rfl⟩
    go_wp2_with fail
    refine (alive_true (HL.out.below B3.out)).mono ?_
    rintro ev w4 ⟨rfl, hb4⟩
    have B4 := Lib.hid (B3.out.trans (hb4.mono B3.out.size))
    clear hb4
    go_wp2
    go_ret
    exact ⟨rfl, B4.out⟩
  · have ho2 : (other == kind) = false := by simpa using ho
    have HI := Lib.hid (Is_no C3.out ho)
    clear ho
    go_wp2_with fail
    refine HI.out.mono ?_
    rintro ev w4 ⟨rfl, rfl⟩
    go_wp2_with fail
    refine (alive_true (HL.out.below B3.out)).mono ?_
    rintro ev w4 ⟨rfl, hb4⟩
    have B4 := Lib.hid (B3.out.trans (hb4.mono B3.out.size))
    clear hb4
    go_wp2
    go_ret
    exact ⟨rfl, B4.out⟩
theorem tells {w : World} (hL : Laid w) (kind other at_ : Int) {v : Value} {over : List Int} (h : Ints w v over) :
    Calls Tryd.prog 3 #[.int .i64 kind, .int .i64 other, .int .i64 at_, v] w (LawPost w) := by
  by_cases hs : over.length ≤ 30
  · by_cases hk : kind = 0
    · subst hk; exact tells_0 hL other at_ h hs
    · exact tells_k hL kind other at_ hk h hs
  · obtain ⟨a, cap, rfl, -, h1, h2, -⟩ := h
    exact tells_long hL kind other at_ (by omega) (Nat.le_trans h1 h2)
end Go.Proofs.YtbfnfkefahnklaaDoor
