/-
  LubyRow, walked.
-/
import Derived.Test.YtpfbppflpajfkaaLubyH
namespace Go.Proofs.Ytpfbppflpajfkaa
open Go.ChangeShapes Go.WideShapes Go.ChangeAt Go.RowKit Go.Shelf
set_option linter.unusedVariables false
attribute [local go_sem] Oper.semAt_some
theorem row_off (n : Int) (w : World) (h : n < 1 ∨ 2000 < n) : Calls Try.prog 3 #[.int .i64 n] w (LawPost w) := by
  have HA := Lib.hid (alive_true ((w.alloc (.cells #[.int .i64 n] 3)).alloc (.cells #[.bool false] 4)))
  have HC := Lib.hid (((Blk.new w 3 #[.int .i64 n])).alloc (.cells #[.bool false] 4))
  have HD := Lib.hid (Blk.new (w.alloc (.cells #[.int .i64 n] 3)) 4 #[.bool false])
  refine (callsIn_wide (n := 5)).1 ?_
  refine callsIn_of_wp_marks Try.func3 rfl trivial ?_ rfl
  simp only [Try.ntmps3, List.size_toArray, List.length_cons, List.length_nil, Nat.reduceAdd, Nat.reduceSub, Array.replicate_succ, Array.replicate_zero, List.push_toArray, List.append_toArray, List.nil_append, List.cons_append]
  gi_wp2_with (refine ⟨trivial, ?_⟩; gi_at_call 5; refine (callsIn_wide.2 HA.out).mono ?_)
  rintro e w1 ⟨rfl, hb⟩
  have hc0 := (HC.out.below hb HC.out.lt).cell 0
  have hc1 := (HD.out.below hb HD.out.lt).cell 0
  have hf1 := (HD.out.below hb HD.out.lt).frozen 0
  simp only [List.getElem?_toArray, List.getElem?_cons_zero, World.size_alloc] at hc0 hc1 hf1
  have HB : Hid (Below w.heap.size w w1) := Lib.hid ((((Below.refl _ w).alloc (Nat.le_refl _) _).alloc (by simp) _).trans (hb.mono (by simp; omega)))
  have HX := Lib.hid (HD.out.below hb HD.out.lt)
  clear hb
  rcases h with h | h
  all_goals
    gi_wp2
    have hr := (HX.out.set_ 0 (.bool true)).cell 0
    simp at hr
    refine ⟨.bool true, by simp [results, Try.results3, go_sem, hr], rfl, ?_⟩
    exact HB.out.setCell (p := ⟨w.heap.size + 1, 0, none⟩) (by simp) _
/-- Between two rounds. -/
def RowI (w : World) (n b j : Nat) (W : World) : Prop :=
  j < n ∧ Blk W w.heap.size 3 #[.int .i64 n] ∧ Blk W (w.heap.size + 1) 4 #[.bool false] ∧ Blk W b 3 #[.int .i64 j] ∧ Below w.heap.size w W
def RowX (w : World) (n b : Nat) (W : World) : Prop :=
  Blk W w.heap.size 3 #[.int .i64 n] ∧ Blk W (w.heap.size + 1) 4 #[.bool false] ∧ Blk W b 3 #[.int .i64 n] ∧ Below w.heap.size w W
theorem RowI.put {w : World} {n b j : Nat} {W : World} (h : RowI w n b j W) {l : Nat} {o o' : Obj} (hl : W.heap[l]? = some o) (ho : o.isCells = false) (hg : w.heap.size ≤ l) : RowI w n b j (W.putObj l o') := by
  obtain ⟨h1, h2, h3, h4, h5⟩ := h
  exact ⟨h1, blk_putObj h2 o' hl ho, blk_putObj h3 o' hl ho, blk_putObj h4 o' hl ho, h5.trans (belowPut hg hl)⟩
theorem RowX.put {w : World} {n b : Nat} {W : World} (h : RowX w n b W) {l : Nat} {o o' : Obj} (hl : W.heap[l]? = some o) (ho : o.isCells = false) (hg : w.heap.size ≤ l) : RowX w n b (W.putObj l o') := by
  obtain ⟨h2, h3, h4, h5⟩ := h
  exact ⟨blk_putObj h2 o' hl ho, blk_putObj h3 o' hl ho, blk_putObj h4 o' hl ho, h5.trans (belowPut hg hl)⟩
theorem rterm_in (m k : Nat) (w : World) (h1 : k ≤ 1000000000) (q : Nat) (hq : q = LL.term (k + 1)) : CallsIn Fence.wide m Try.prog 7 #[.int .i64 ((k : Int) + 1)] w fun e w' => e = .returned (.int .i64 q) ∧ w = w' := by
  subst hq
  have := rterm_on (k + 1) w (by omega) (by omega)
  rw [Int.natCast_add] at this
  exact callsIn_wide.2 this
set_option maxHeartbeats 1000000 in
theorem row_on (n : Nat) (w : World) (h0 : 1 ≤ n) (hm : n ≤ 2000) : Calls Try.prog 3 #[.int .i64 (n : Int)] w (LawPost w) := by
  have m0 : (1 : Int) ≤ (n : Int) := by omega
  have m1 : (n : Int) ≤ 2000 := by omega
  have HA := Lib.hid (alive_true ((w.alloc (.cells #[.int .i64 (n : Int)] 3)).alloc (.cells #[.bool false] 4)))
  have HC := Lib.hid (((Blk.new w 3 #[.int .i64 (n : Int)])).alloc (.cells #[.bool false] 4))
  have HD := Lib.hid (Blk.new (w.alloc (.cells #[.int .i64 (n : Int)] 3)) 4 #[.bool false])
  refine (callsIn_wide (n := 5)).1 ?_
  refine callsIn_of_wp_marks Try.func3 rfl trivial ?_ rfl
  simp only [Try.ntmps3, List.size_toArray, List.length_cons, List.length_nil, Nat.reduceAdd, Nat.reduceSub, Array.replicate_succ, Array.replicate_zero, List.push_toArray, List.append_toArray, List.nil_append, List.cons_append]
  gi_wp2_with (refine ⟨trivial, ?_⟩; gi_at_call 5; refine (callsIn_wide.2 HA.out).mono ?_)
  rintro e w1 ⟨rfl, hb⟩
  have hd := HC.out.below hb HC.out.lt
  have he := HD.out.below hb HD.out.lt
  have hc0 := hd.cell 0
  have hc1 := he.cell 0
  have hf1 := he.frozen 0
  simp only [List.getElem?_toArray, List.getElem?_cons_zero, World.size_alloc] at hc0 hc1 hf1 he
  have HB : Hid (Below w.heap.size w w1) := Lib.hid ((((Below.refl _ w).alloc (Nat.le_refl _) _).alloc (by simp) _).trans (hb.mono (by simp; omega)))
  have HX := Lib.hid hd
  have HY := Lib.hid he
  have hbs : w.heap.size + 1 < w1.heap.size := he.lt
  clear hb hd he
  gi_wp2_with (refine ⟨trivial, ?_⟩; gi_at_call 6; refine (Terms_in _ _).mono ?_; rintro e w' ⟨rfl, rfl⟩)
  obtain ⟨b, hb⟩ : ∃ b, b = w1.heap.size := ⟨_, rfl⟩
  have hs0 : ∀ o o', RowI w n b 0 (((w1.alloc (.cells #[.int .i64 0] 3)).alloc o).alloc o') := fun o o' => by
    refine ⟨by omega, ((HX.out.alloc _).alloc _).alloc _, ((HY.out.alloc _).alloc _).alloc _, ?_, ?_⟩
    · rw [hb]; exact ((Blk.new w1 3 #[.int .i64 0]).alloc o).alloc o'
    · exact ((HB.out.alloc (by omega) _).alloc (by simp; omega) _).alloc (by simp; omega) _
  have HS := Lib.hid hs0
  have hbw : w.heap.size + 1 < b := by omega
  rw [← hb]
  have HBB := Lib.hid hb
  clear hs0 hc0 hc1 hf1 hb
  refine Rg.wpIn_endless rfl (by omega) (gf := 10) (lb := #[]) rfl trivial (enters_of Try.func10 (by kernel_rfl) rfl) (terms_endless (5 - 1) n (by omega) (by omega)) (fun _ => rfl)
    (RowI w n b) (fun c W => c = .exit 0 ∧ RowX w n b W) (fun k W l o o' h hl ho hg => h.put hl ho (by simp at hg; omega)) (fun c W l o o' h hl ho hg => ⟨h.1, h.2.put hl ho (by simp at hg; omega)⟩)
    (fun k W h => h.1) HS.out
    (fun k => { tmps := #[.int .i64 n, .pointer (some ⟨w.heap.size, 0, none⟩), .pointer (some ⟨w.heap.size + 1, 0, none⟩), .pointer (some ⟨b, 0, none⟩), .int .i64 (LL.term (k + 1)), .bool true, .bool false, .int .i64 n, .bool (decide ((n : Int) < 1)), .bool (decide ((n : Int) < 1)), .int .i64 n, .bool (decide (2000 < (n : Int))), .bool (decide ((n : Int) < 1) || decide (2000 < (n : Int))), .func (.func 10) #[] #[], .int .i64 (LL.term (k + 1)), undef, undef, undef, undef, undef, undef, undef, undef, undef, undef, undef, undef], defers := [] }) ?assign ?body ?stop
  case assign =>
    intro l k W K hK
    dsimp only [termsEnc]
    gi_wp2
    exact hK
  case body =>
    rintro l k W ⟨hk, b0, b1, b2, hB⟩
    have hc0 := b0.cell 0
    have hc2 := b2.cell 0
    simp only [List.getElem?_toArray, List.getElem?_cons_zero] at hc0 hc2
    have hf2 := b2.frozen 0
    obtain ⟨q, hq⟩ : ∃ q, q = LL.term (k + 1) := ⟨_, rfl⟩
    have HT := Lib.hid fun W => rterm_in (5 - 1 - 1 - 1) k W (by omega) q hq
    rw [← hq]
    have hk1 : (k : Int) ≤ 2000 := by omega
    have B0 := Lib.hid b0
    have B1 := Lib.hid b1
    have B2 := Lib.hid b2
    have HBW := Lib.hid hB
    clear b0 b1 b2 hB hq
    by_cases hkn : k + 1 = n
    · have he : ((k : Int) + 1 == (n : Int)) = true := by rw [beq_iff_eq]; omega
      have HK := Lib.hid hkn
      clear hkn
      gi_wp2_with (refine ⟨trivial, ?_⟩; gi_at_call 7; refine (CallsIn.inRound l (HT.out _)).mono ?_; rintro e w' ⟨rfl, rfl⟩)
      refine ⟨KeepsOthers.setCell _ _ _, rfl, B0.out.far (by simp; omega) _, B1.out.far (by simp; omega) _, ?_, HBW.out.setCell (p := ⟨b, 0, none⟩) (by simp; omega) _⟩
      have := B2.out.set_ 0 (.int .i64 ((k : Int) + 1))
      rw [← HK.out]
      simpa using this
    · have he : ((k : Int) + 1 == (n : Int)) = false := by rw [beq_eq_false_iff_ne]; omega
      have HK := Lib.hid (show k + 1 < n by omega)
      clear hkn
      gi_wp2_with (refine ⟨trivial, ?_⟩; gi_at_call 7; refine (CallsIn.inRound l (HT.out _)).mono ?_; rintro e w' ⟨rfl, rfl⟩)
      refine ⟨KeepsOthers.setCell _ _ _, HK.out, B0.out.far (by simp; omega) _, B1.out.far (by simp; omega) _, ?_, HBW.out.setCell (p := ⟨b, 0, none⟩) (by simp; omega) _⟩
      have := B2.out.set_ 0 (.int .i64 ((k : Int) + 1))
      simpa using this
  case stop =>
    rintro D c W hD ⟨rfl, b0, b1, b2, hB⟩ hK
    have hc0 := b0.cell 0
    have hc1 := b1.cell 0
    have hc2 := b2.cell 0
    simp only [List.getElem?_toArray, List.getElem?_cons_zero] at hc0 hc1 hc2
    have hf1 := b1.frozen 0
    have HBW := Lib.hid hB
    have B1 := Lib.hid b1
    clear b0 b1 b2 hB
    gi_wp2
    have hK2 := (KeepsOthers.setCell W ⟨w.heap.size + 1, 0, none⟩ (.bool true)).same D _ hK rfl
    have hcr : ((W.setCell ⟨w.heap.size + 1, 0, none⟩ (.bool true)).putObj D (.deferred none)).cell? ⟨w.heap.size + 1, 0, none⟩ = some (.bool true) :=
      cell_kept ((B1.out.set_ 0 (.bool true)).cell 0) (grownBy_putObj' _ D (.deferred none)) (fun r e => by cases e; exact ⟨_, hK2, rfl⟩)
    refine ⟨by simp, .inl ⟨_, _, rfl, run_takeDeferred hK2, ?_⟩⟩
    refine ⟨.bool true, by simp [results, Try.results3, go_sem, hcr], rfl, ?_⟩
    exact (HBW.out.setCell (p := ⟨w.heap.size + 1, 0, none⟩) (by simp) _).trans (belowPut (by simp at hD; omega) hK2)
theorem row (n : Int) (w : World) : Calls Try.prog 3 #[.int .i64 n] w (LawPost w) := by
  by_cases h : n < 1 ∨ 2000 < n
  · exact row_off n w h
  · obtain ⟨m, rfl⟩ : ∃ m : Nat, n = (m : Int) := ⟨n.toNat, by omega⟩
    exact row_on m w (by omega) (by omega)
end Go.Proofs.Ytpfbppflpajfkaa
