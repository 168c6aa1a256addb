/-
  Gates, PLAIN: how long clauses are; what each step of made leaves.
-/
import Derived.Test.YtkofhilgehhopaaGvF
namespace Go.Proofs.Ytkofhilgehhopaa
open Go Go.ChangeShapes Go.WideShapes Go.ChangeAt Go.RowKit Go.Maps
set_option linter.unusedVariables false
set_option linter.unusedSimpArgs false
attribute [local go_sem ↓] Go.wp_at_zero Go.wp_at_succ
def CB (S : GS) : Prop := ∀ c ∈ S.cl, c.length ≤ 20
theorem CB.start : CB ⟨1, [[1]], []⟩ := fun c hc => by simp at hc; subst hc; decide
theorem CB.gate {S : GS} (h : CB S) (x : GKey) {cls : Int → List (List Int)} (hc : ∀ o, ∀ c ∈ cls o, c.length ≤ 20) : CB (gateS x cls S).2 := by
  unfold gateS
  split
  · exact h
  · intro c hcc
    rcases List.mem_append.1 hcc with hcc | hcc
    · exact h c hcc
    · exact hc _ c hcc
theorem CB.and {S : GS} (h : CB S) (a b : Int) : CB (andS a b S).2 := by
  unfold andS
  split
  · exact h
  split
  · exact h
  split
  · exact h
  exact h.gate _ fun o c hc => by simp at hc; rcases hc with rfl | rfl | rfl <;> simp
theorem CB.or {S : GS} (h : CB S) (a b : Int) : CB (orS a b S).2 := h.and (-a) (-b)
theorem CB.choose {S : GS} (h : CB S) (c a b : Int) : CB (chooseS c a b S).2 := by
  unfold chooseS
  split
  · exact h
  split
  · exact h
  exact h.gate _ fun o c hc => by simp at hc; rcases hc with rfl | rfl | rfl | rfl <;> simp
theorem CB.xor {S : GS} (h : CB S) (a b : Int) : CB (xorS a b S).2 := by
  unfold xorS
  split
  · exact h
  split
  · exact h
  split
  · exact h
  split
  · exact h
  exact h.gate _ fun o c hc => by simp at hc; rcases hc with rfl | rfl | rfl | rfl <;> simp
theorem CB.all {S : GS} (h : CB S) {l : List Int} (hl : l.length ≤ 19) : CB (allS l S).2 := by
  unfold allS
  split
  · exact h
  split
  · exact h
  split
  · exact h
  refine h.gate _ fun o c hc => ?_
  have := canonL_len l
  unfold allCls at hc
  rcases List.mem_append.1 hc with hc | hc
  · obtain ⟨x, -, rfl⟩ := List.mem_map.1 hc
    simp
  · simp at hc
    subst hc
    simp
    omega
theorem CB.xors : ∀ (ps : List (Int × Int)) {S : GS}, CB S → CB (xorsS ps S).2
  | [], S, h => h
  | p :: r, S, h => CB.xors r (h.xor p.1 p.2)
theorem CB.call {S : GS} (h : CB S) {a : ActD} {l : List Int} (hq : a.at_.length ≤ 8) : CB (callS a l S).2 := by
  unfold callS
  split
  · exact h
  split
  · exact h.and _ _
  split
  · exact h.or _ _
  split
  · exact h.xor _ _
  split
  · exact h.choose _ _ _
  split
  · exact h.all (by rw [litsA_len]; omega)
  split
  · exact h.all (by rw [negs_len, litsA_len]; omega)
  · unfold equalS
    exact (h.xors _).all (by rw [xorsS_len]; unfold halvesA; simp; omega)
theorem CB.ok {S : GS} {F : Nat → Prop} (h : CB S) (hi : GI S F) (hl : S.cl.length ≤ 100000) : ClsOk (S.n : Int) S.cl := by
  refine ⟨hl, fun j hj => ?_⟩
  have hm : S.cl.getD j [] ∈ S.cl := by simp [List.getD, hj]
  exact ⟨by have := h _ hm; omega, rightB_ok (hi.lit _ hm)⟩
/-- The formula's block alone tells its variables and how many clauses. -/
def FBlk (w : World) (f : Nat) (n : Int) (k : Nat) : Prop := ∃ a cap, Blk w f 59 #[.int .i64 n, .slice a k cap]
theorem FBlk.of {B : Nat} {w : World} {f : Nat} {n : Int} {xss : List (List Int)} (h : FAt B w f n xss) : FBlk w f n xss.length := by
  obtain ⟨h0, vl, us, h1, h2, -⟩ := h
  rcases h2.form with ⟨rfl, e, -⟩ | ⟨g, cap, rfl, -⟩
  · exact ⟨none, 0, by rw [e]; exact h1⟩
  · exact ⟨_, _, h1⟩
theorem FBlk.chg {w w' : World} {f : Nat} {n : Int} {k : Nat} {T : Nat → Prop} (h : FBlk w f n k) (hc : Chg T w w') (hn : ¬ T f) : FBlk w' f n k := by
  obtain ⟨a, cap, h⟩ := h
  exact ⟨a, cap, h.chg hc hn⟩
theorem FBlk.below {w w' : World} {f : Nat} {n : Int} {k : Nat} (h : FBlk w f n k) (hb : Below w.heap.size w w') : FBlk w' f n k := h.chg (T := fun _ => False) (Chg.of_below hb) (fun e => e)
theorem FBlk.Vars {w : World} {f : Nat} {n : Int} {k : Nat} (h : FBlk w f n k) : Calls Try.prog 9 #[.pointer (some ⟨f, 0, none⟩)] w fun e w' => e = .returned (.int .i64 n) ∧ w = w' := by
  obtain ⟨a, cap, h⟩ := h
  have c0 := h.cell 0
  clear h
  go_enter Try.func9, Try.ntmps9
  go_wp2
  go_ret
  exact ⟨rfl, rfl⟩
theorem FBlk.Len {w : World} {f : Nat} {n : Int} {k : Nat} (h : FBlk w f n k) : Calls Try.prog 50 #[.pointer (some ⟨f, 0, none⟩)] w fun e w' => e = .returned (.int .i64 k) ∧ w = w' := by
  obtain ⟨a, cap, h⟩ := h
  have HA := Lib.hid (all_ (h.cell 1))
  clear h
  go_enter Try.func50, Try.ntmps50
  go_wp2_with ((go_at_call 59; refine (HA.out).mono ?_; rintro e w' ⟨rfl, rfl⟩))
  go_ret
  exact ⟨rfl, rfl⟩
end Go.Proofs.Ytkofhilgehhopaa
/-
  What made leaves, and its step.
-/
namespace Go.Proofs.Ytkofhilgehhopaa
open Go Go.ChangeShapes Go.WideShapes Go.ChangeAt Go.RowKit Go.Maps
set_option linter.unusedVariables false
set_option linter.unusedSimpArgs false
/-- What made has behind j acts. -/
def MadeR (w0 : World) (g f m : Nat) (xs : List ActD) (j : Nat) (vl : Value) (wr : World) : Prop :=
  ∃ l S F fp, MdI (xs.take j) l S F ∧ CB S ∧ GMem fp w0.heap.size wr g f m S ∧ RowG fp wr m vl l ∧ (∀ b, vl.ownBlock = some b → w0.heap.size ≤ b ∧ b ≠ g) ∧ Below w0.heap.size w0 wr ∧ ∀ i, i < j → FineD (xs.getD i act0) (i + 1)
section
variable {w0 W : World} {fp : Nat → Prop} {g f m : Nat} {xs : List ActD}
theorem MadeR.start (h : GMem fp w0.heap.size W g f m ⟨1, [[1]], []⟩) (hb : Below w0.heap.size w0 W) :
    MadeR w0 g f m xs 0 (.slice (some ⟨W.heap.size, 0, none⟩) 1 1) (W.alloc (.cells #[.int .i64 1] 3)) := by
  have hA : Below W.heap.size W (W.alloc (.cells #[.int .i64 1] 3)) := al1 _ _
  obtain ⟨D, hrep, hG⟩ := h
  have hfl := hG.fo.lt'
  have hml := hG.mp.lt
  have hgl := hG.bk.lt
  have hs := hb.size
  refine ⟨[1], _, _, fp, MdI.start, CB.start, ⟨D, hrep, hG.below hA⟩, ⟨?_, fun b hb' => ?_⟩, fun b hb' => ?_, hb.trans (hA.mono hs), fun i hi => by omega⟩
  · exact ⟨rfl, .inr ⟨W.heap.size, 1, #[.int .i64 1], rfl, Nat.zero_le _, heap_alloc_new W _, Nat.le_refl _, by simp [maxLen], rfl, rfl⟩⟩
  · simp [Value.ownBlock] at hb'
    subst hb'
    exact ⟨fun e => by have := hfl _ e; omega, by omega⟩
  · simp [Value.ownBlock] at hb'
    subst hb'
    exact ⟨hs, by omega⟩
theorem MadeR.app {j : Nat} {l : List Int} {S : GS} {F : Nat → Prop} {x : Int} {vl v' : Value} {w3 : World} (hM : MdI (xs.take (j + 1)) (l ++ [x]) S F) (hC : CB S) (hG : GMem fp w0.heap.size W g f m S) (hR : RowG fp W m vl l)
    (ho : ∀ b, vl.ownBlock = some b → w0.heap.size ≤ b ∧ b ≠ g) (hB : Below w0.heap.size w0 W) (hF : ∀ i, i < j + 1 → FineD (xs.getD i act0) (i + 1))
    (hp : AppPost (W.alloc (.cells #[.int .i64 x] 3)) 3 1 vl (l.length + 1) (l.map iv ++ [.int .i64 x]) v' w3) : MadeR w0 g f m xs (j + 1) v' w3 := by
  have hA : Below W.heap.size W (W.alloc (.cells #[.int .i64 x] 3)) := al1 _ _
  obtain ⟨D, hrep, hG⟩ := hG
  have hfl := hG.fo.lt'
  have hml := hG.mp.lt
  have hgl := hG.bk.lt
  have hs := hB.size
  have hcs : Chg (fun y => vl.ownBlock = some y) W w3 := ((Chg.of_below (S := fun _ => False) hA).mono (fun _ e => e.elim)).trans hp.2.1 (fun i hi => .inl hi)
  refine ⟨_, S, F, fp, hM, hC, ⟨D, hrep, hG.chgT hcs (fun y hy => .inr ⟨(ho y hy).2, (hR.o y hy).1, (hR.o y hy).2⟩)⟩, hR.app (fun y e => hfl y e) hml hp, fun b hb => ?_, hB.trans (hcs.below hs (fun i hi => (ho i hi).1)), hF⟩
  rcases hp.2.2 with e | e
  · rw [e] at hb; exact ho b hb
  · rw [e] at hb
    simp at hb
    omega
theorem take_snocA {xs : List ActD} {j : Nat} (h : j < xs.length) : xs.take (j + 1) = xs.take j ++ [xs.getD j act0] := by
  rw [List.take_succ_eq_append_getElem h]; simp [List.getD, h]
/-- One act more: what it is worth. -/
theorem made_step {j : Nat} {l : List Int} {S : GS} {F : Nat → Prop} (hj : j < xs.length) (hj9 : j < 60) (hM : MdI (xs.take j) l S F) (hC : CB S) (ha : FineD (xs.getD j act0) (j + 1)) :
    ∃ x S2 F2, (x, S2) = callS (xs.getD j act0) l S ∧ MdI (xs.take (j + 1)) (l ++ [x]) S2 F2 ∧ CB S2 ∧ x ≠ 0 ∧ S.n ≤ S2.n ∧ S2.n ≤ S.n + costV (xs.getD j act0) ∧ S2.cl.length ≤ S.cl.length + costC (xs.getD j act0) ∧ S.n ≤ 541 ∧ S.cl.length ≤ 2461 ∧ S.tab.length ≤ 540 ∧ S2.n ≤ 541 ∧ S2.cl.length ≤ 2461 ∧ S2.tab.length ≤ 540 ∧ -541 ≤ x ∧ x ≤ 541 ∧
      ((xs.getD j act0).k ≠ 0 → callS (xs.getD j act0) l S2 = (x, S2)) ∧ l.length = j + 1 := by
  generalize hA : xs.getD j act0 = a at *
  have hlt : (xs.take j).length = j := by rw [List.length_take]; omega
  have hlen : l.length = j + 1 := by rw [hM.len, hlt]
  have hn := hM.nb
  have hc := hM.cb
  have ht := hM.tb
  rw [hlt] at hn hc ht
  have ha' : FineD a l.length := by rw [hlen]; exact ha
  have hts : xs.take (j + 1) = xs.take j ++ [a] := by rw [take_snocA hj, hA]
  have hlt1 : (xs.take (j + 1)).length = j + 1 := by rw [List.length_take]; omega
  by_cases hk : a.k = 0
  · have hm := hM.fresh hk
    rw [← hts] at hm
    have e : callS a l S = (((S.n + 1 : Nat) : Int), ⟨S.n + 1, S.cl, S.tab⟩) := by unfold callS; rw [if_pos hk]
    have hv : costV a = 1 := by unfold costV; rw [if_pos (.inl hk)]
    exact ⟨_, _, _, e.symm, hm, hC, by omega, Nat.le_succ _, by rw [hv]; exact Nat.le_refl _, Nat.le_add_right _ _, by omega, by omega, by omega, by show S.n + 1 ≤ 541; omega, by show S.cl.length ≤ _; omega, by show S.tab.length ≤ _; omega, by omega, by omega, fun q => absurd hk q, hlen⟩
  · have hm := hM.call ha' hk (by omega)
    rw [← hts] at hm
    have hr := call_res hM.gi hM.ok ha' hk (by omega)
    have h1 := hm.nb
    have h2 := hm.cb
    have h3 := hm.tb
    rw [hlt1] at h1 h2 h3
    obtain ⟨o0, o1, o2⟩ := hr.ok
    exact ⟨(callS a l S).1, (callS a l S).2, F, rfl, hm, hC.call ha.len, o0, hr.ext.n, hr.nb, hr.cb, by omega, by omega, by omega, by omega, by omega, by omega, by omega, by omega, fun _ => hr.again _ (ExtS.refl _), hlen⟩
end
end Go.Proofs.Ytkofhilgehhopaa
