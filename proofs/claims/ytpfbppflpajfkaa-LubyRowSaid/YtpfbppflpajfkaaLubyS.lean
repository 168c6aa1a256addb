/-
  The iterator luby.Terms, walked inside a fence.
-/
import Derived.Test.YtpfbppflpajfkaaLubyR
import Derived.Test.YtpfbppflpajfkaaRange
import Derived.Test.YtpfbppflpajfkaaFoot
namespace Go.Proofs.Ytpfbppflpajfkaa
open Go.ChangeShapes Go.WideShapes Go.ChangeAt Go.RowKit Go.Shelf
set_option linter.unusedVariables false
attribute [local go_sem] Oper.semAt_some
def termsEnc (k : Nat) : Array Value := #[.int .i64 (LL.term (k + 1))]
theorem term_in (n k : Nat) (w : World) (h1 : k ≤ 1000000000) : CallsIn Fence.wide n Try.prog 8 #[.int .i64 ((k : Int) + 1)] w fun e w' => e = .returned (.int .i64 (LL.term (k + 1))) ∧ w = w' := by
  have := term_on (k + 1) w (by omega) (by omega)
  rw [Int.natCast_add] at this
  exact callsIn_wide.2 this
set_option maxHeartbeats 1000000 in
theorem terms_endless (n N : Nat) (hn : 1 ≤ n) (hN : N ≤ 1000000000) : Rg.Endless Fence.wide n Try.prog 10 #[] termsEnc N := by
  intro l J Jx W hJN hY h0
  refine callsIn_of_wp Try.func10 rfl trivial ?_ rfl
  simp only [Try.ntmps10, List.size_toArray, List.length_cons, List.length_nil, Nat.reduceAdd, Nat.reduceSub, Array.replicate_succ, Array.replicate_zero, List.push_toArray, List.append_toArray, List.nil_append, List.cons_append]
  gi_wp2
  gi_loopw [2] (fun i wr => ∃ k : Nat, i = .int .i64 ((k : Int) + 1) ∧ J k wr) (fun i wr => N - (intOf i).toNat + 1)
  case atStart => exact ⟨0, rfl, h0⟩
  case round =>
    obtain ⟨k, rfl, hJ⟩ := hrel
    have hk := hJN k wr hJ
    obtain ⟨fn, tmps, assign, body, hy, hR⟩ := hY k wr hJ
    dsimp only [termsEnc] at hy
    have HR := Lib.hid hR
    have HJ := Lib.hid hJ
    have HH := Lib.hid hJN
    have HY := Lib.hid hY
    have k1 : (k : Int) + 1 ≤ 1000000000 := by omega
    clear hR hJ hJN hY h0
    gi_wp2_with (refine ⟨trivial, ?_⟩; gi_at_call 8; refine (term_in _ k _ (by omega)).mono ?_; rintro e w' ⟨rfl, rfl⟩)
    refine HR.out.mono ?_
    rintro e W' (⟨rfl, hJ'⟩ | ⟨rfl, hJx'⟩)
    · have HJ2 := Lib.hid hJ'
      have hk2 := HH.out _ _ hJ'
      clear hJ'
      gi_wp2
      go_roundw
      case rel => exact ⟨k + 1, by go_num, HJ2.out⟩
      case measure => simp [intOf]; omega
    · have HJ2 := Lib.hid hJx'
      clear hJx'
      gi_wp2
      go_end0
      exact ⟨⟨_, rfl⟩, HJ2.out⟩
theorem Terms_in (n : Nat) (w : World) : CallsIn Fence.wide n Try.prog 6 #[] w fun e w' => e = .returned (.func (.func 10) #[] #[]) ∧ w = w' := by
  refine callsIn_wide.2 ?_
  go_enter Try.func6, Try.ntmps6
  go_wp2
  go_ret
  exact ⟨rfl, rfl⟩
theorem belowPut {w W : World} {l : Nat} {o o' : Obj} (hg : w.heap.size ≤ l) (hl : W.heap[l]? = some o) : Below w.heap.size W (W.putObj l o') :=
  (Below.refl w.heap.size W).grown (grownBy_putObj' W l o') (by have := (Array.getElem?_eq_some_iff.1 hl).1; omega) (fun k e => by cases e; exact hg)
def sumT : Nat → Nat
  | 0 => 0
  | k + 1 => sumT k + LL.term (k + 1)
theorem sumT_le : ∀ k, k ≤ 2000 → sumT k ≤ k * 2000
  | 0, _ => by simp [sumT]
  | k + 1, h => by
    have h1 := sumT_le k (by omega)
    have h2 := LL.term_le (k + 1) (k + 1) (by omega) (by omega) (Nat.le_refl _)
    have h3 : LL.term (k + 1) ≤ k + 1 := h2
    show sumT k + LL.term (k + 1) ≤ _
    rw [Nat.succ_mul]
    omega
theorem blk_putObj {W : World} {g : Nat} {t : TypeId} {cs : Array Value} (h : Blk W g t cs) {l : Nat} {o : Obj} (o' : Obj) (hl : W.heap[l]? = some o) (ho : o.isCells = false) : Blk (W.putObj l o') g t cs := by
  have hn : g ≠ l := by
    rintro rfl
    have h' : W.heap[g]? = some (.cells cs t (0, 0)) := h
    rw [h'] at hl
    cases hl
    cases ho
  exact (World.putObj_heap_other hn).trans h
/-- Between two rounds of Sum. -/
def SumI (w : World) (m k : Nat) (W : World) : Prop :=
  k ≤ m ∧ Blk W w.heap.size 3 #[.int .i64 m] ∧ Blk W (w.heap.size + 1) 3 #[.int .i64 (sumT k)] ∧ Blk W (w.heap.size + 1 + 1) 3 #[.int .i64 k] ∧ Below w.heap.size w W
theorem SumI.put {w : World} {m k : Nat} {W : World} (h : SumI w m k W) {l : Nat} {o o' : Obj} (hl : W.heap[l]? = some o) (ho : o.isCells = false) (hg : w.heap.size ≤ l) : SumI w m k (W.putObj l o') := by
  obtain ⟨h1, h2, h3, h4, h5⟩ := h
  exact ⟨h1, blk_putObj h2 o' hl ho, blk_putObj h3 o' hl ho, blk_putObj h4 o' hl ho, h5.trans (belowPut hg hl)⟩
set_option maxHeartbeats 1000000 in
theorem sum_on (m : Nat) (w : World) (hm : m ≤ 2000) : Calls Try.prog 9 #[.int .i64 (m : Int)] w fun e w' => e = .returned (.int .i64 (sumT m)) ∧ Below w.heap.size w w' := by
  refine (callsIn_wide (n := 5)).1 ?_
  refine callsIn_of_wp_marks Try.func9 rfl trivial ?_ rfl
  simp only [Try.ntmps9, List.size_toArray, List.length_cons, List.length_nil, Nat.reduceAdd, Nat.reduceSub, Array.replicate_succ, Array.replicate_zero, List.push_toArray, List.append_toArray, List.nil_append, List.cons_append]
  have m0 : (0 : Int) ≤ (m : Int) := by omega
  have m1 : (m : Int) ≤ 2000 := by omega
  gi_wp2_with (refine ⟨trivial, ?_⟩; gi_at_call 6; refine (Terms_in _ _).mono ?_; rintro e w' ⟨rfl, rfl⟩)
  have hs0 : ∀ o o', SumI w m 0 ((((((w.alloc (.cells #[.int .i64 (m : Int)] 3)).alloc (.cells #[.int .i64 0] 3)).alloc (.cells #[.int .i64 0] 3))).alloc o).alloc o') := fun o o' => by
    refine ⟨Nat.zero_le _, ((((Blk.new w 3 _).alloc _).alloc _).alloc _).alloc _, ?_, ?_, ?_⟩
    · have := (((Blk.new (w.alloc (.cells #[.int .i64 (m : Int)] 3)) 3 #[.int .i64 0]).alloc (.cells #[.int .i64 0] 3)).alloc o).alloc o'
      simpa [sumT] using this
    · have := ((Blk.new ((w.alloc (.cells #[.int .i64 (m : Int)] 3)).alloc (.cells #[.int .i64 0] 3)) 3 #[.int .i64 0]).alloc o).alloc o'
      simpa using this
    · exact (((((Below.refl _ w).alloc (Nat.le_refl _) _).alloc (by simp) _).alloc (by simp; omega) _).alloc (by simp; omega) _).alloc (by simp; omega) _
  have HS := Lib.hid hs0
  clear hs0
  refine Rg.wpIn_endless rfl (by omega) (gf := 10) (lb := #[]) rfl trivial (enters_of Try.func10 (by kernel_rfl) rfl) (terms_endless (5 - 1) (m + 1) (by omega) (by omega)) (fun _ => rfl)
    (SumI w m) (fun c W => c = .exit 0 ∧ SumI w m m W) (fun k W l o o' h hl ho hg => h.put hl ho (by simp at hg; omega)) (fun c W l o o' h hl ho hg => ⟨h.1, h.2.put hl ho (by simp at hg; omega)⟩)
    (fun k W h => by have := h.1; omega) HS.out
    (fun k => { tmps := #[.int .i64 m, .pointer (some ⟨w.heap.size, 0, none⟩), .pointer (some ⟨w.heap.size + 1, 0, none⟩), .pointer (some ⟨w.heap.size + 1 + 1, 0, none⟩), .int .i64 (LL.term (k + 1)), .int .i64 m, .bool (decide ((m : Int) < 0)), .bool (decide ((m : Int) < 0)), .int .i64 m, .bool (decide (1048576 < (m : Int))), .bool (decide ((m : Int) < 0) || decide (1048576 < (m : Int))), .func (.func 10) #[] #[], .int .i64 (LL.term (k + 1)), undef, undef, undef, undef, undef, undef, undef, undef, undef], defers := [] }) ?assign ?body ?stop
  case assign =>
    intro l k W K hK
    dsimp only [termsEnc]
    gi_wp2
    exact hK
  case body =>
    rintro l k W ⟨hk, b0, b1, b2, hB⟩
    have hle := sumT_le k (by omega)
    have hc0 := b0.cell 0
    have hc1 := b1.cell 0
    have hc2 := b2.cell 0
    simp only [List.getElem?_toArray, List.getElem?_cons_zero] at hc0 hc1 hc2
    have hf1 := b1.frozen 0
    have hf2 := b2.frozen 0
    by_cases hkm : k = m
    · subst hkm
      have HB := Lib.hid (show SumI w k k W from ⟨hk, b0, b1, b2, hB⟩)
      clear b0 b1 b2 hB
      gi_wp2
      exact ⟨KeepsOthers.refl _, rfl, HB.out⟩
    · have hne : ((k : Int) == (m : Int)) = false := by rw [beq_eq_false_iff_ne]; omega
      have ht := LL.term_le (k + 1) (k + 1) (by omega) (by omega) (Nat.le_refl _)
      have ht2 : LL.term (k + 1) ≤ 2000 := by have : LL.term (k + 1) ≤ k + 1 := ht; omega
      obtain ⟨q, hq⟩ : ∃ q, q = LL.term (k + 1) := ⟨_, rfl⟩
      have hs : sumT (k + 1) = sumT k + q := by rw [hq]; rfl
      rw [← hq] at ht2 ⊢
      obtain ⟨s, hse⟩ : ∃ s, s = sumT k := ⟨_, rfl⟩
      rw [← hse] at hle hc1 b1 hs
      have q0 : (0 : Int) ≤ (q : Int) := by omega
      have q1 : (q : Int) ≤ 2000 := by omega
      have s0 : (0 : Int) ≤ (s : Int) := by omega
      have s1 : (s : Int) ≤ 4000000 := by
        have : k * 2000 ≤ 2000 * 2000 := Nat.mul_le_mul_right _ (by omega)
        omega
      have hk1 : (k : Int) ≤ 2000 := by omega
      have B0 := Lib.hid b0
      have B1 := Lib.hid b1
      have B2 := Lib.hid b2
      have HB := Lib.hid hB
      have HS2 := Lib.hid hs
      have HK := Lib.hid (show k + 1 ≤ m by omega)
      clear b0 b1 b2 hB hs ht hq hse hkm hle ht2
      gi_wp2
      refine ⟨(KeepsOthers.setCell _ _ _).trans (KeepsOthers.setCell _ _ _), HK.out, ?_, ?_, ?_, ?_⟩
      · exact (B0.out.far (by simp) _).far (by simp; omega) _
      · rw [HS2.out]
        have := (B1.out.set_ 0 (.int .i64 ((s : Int) + (q : Int)))).far (p := ⟨w.heap.size + 1 + 1, 0, none⟩) (by simp) (.int .i64 ((k : Int) + 1))
        simpa using this
      · have := (B2.out.far (p := ⟨w.heap.size + 1, 0, none⟩) (by simp) (.int .i64 ((s : Int) + (q : Int)))).set_ 0 (.int .i64 ((k : Int) + 1))
        simpa using this
      · exact (HB.out.setCell (p := ⟨w.heap.size + 1, 0, none⟩) (by simp) _).setCell (p := ⟨w.heap.size + 1 + 1, 0, none⟩) (by simp; omega) _
  case stop =>
    rintro D c W hD ⟨rfl, -, b0, b1, b2, hB⟩ hK
    have hc1 := b1.cell 0
    simp only [List.getElem?_toArray, List.getElem?_cons_zero] at hc1
    have hf1 := b1.frozen 0
    have HB := Lib.hid hB
    have B1 := Lib.hid b1
    clear b0 b1 b2 hB
    gi_wp2
    have hK2 := (KeepsOthers.setCell W ⟨w.heap.size + 1, 0, none⟩ (.int .i64 (sumT m))).same D _ hK rfl
    have hcr : ((W.setCell ⟨w.heap.size + 1, 0, none⟩ (.int .i64 (sumT m))).putObj D (.deferred none)).cell? ⟨w.heap.size + 1, 0, none⟩ = some (.int .i64 (sumT m)) :=
      cell_kept ((B1.out.set_ 0 (.int .i64 (sumT m))).cell 0) (grownBy_putObj' _ D (.deferred none)) (fun r e => by cases e; exact ⟨_, hK2, rfl⟩)
    refine ⟨by simp, .inl ⟨_, _, rfl, run_takeDeferred hK2, ?_⟩⟩
    refine ⟨.int .i64 (sumT m), by simp [results, Try.results9, go_sem, hcr], rfl, ?_⟩
    exact (HB.out.setCell (p := ⟨w.heap.size + 1, 0, none⟩) (by simp) _).trans (belowPut (by simp at hD; omega) hK2)
end Go.Proofs.Ytpfbppflpajfkaa
