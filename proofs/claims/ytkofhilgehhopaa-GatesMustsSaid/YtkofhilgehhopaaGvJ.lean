/-
  Gates, PLAIN: how long clauses are; what each step of made leaves.
-/
import Derived.Test.YtkofhilgehhopaaGvF
namespace Go.Proofs.Ytkofhilgehhopaa
open Go Go.ChangeShapes Go.WideShapes Go.ChangeAt Go.RowKit Go.Maps
set_option linter.unusedVariables false
set_option linter.unusedSimpArgs false
attribute [local go_sem ↓] Go.wp_at_zero Go.wp_at_succ
def CB (S : GS) : Prop := ∀ c ∈ S.cl, c.length ≤ 20
theorem CB.start : CB ⟨1, [[1]], []⟩ := fun c hc => by simp at hc; subst hc; decide
theorem CB.gate {S : GS} (h : CB S) (x : GKey) {cls : Int → List (List Int)} (hc : ∀ o, ∀ c ∈ cls o, c.length ≤ 20) : CB (gateS x cls S).2 := by
  unfold gateS
  split
  · exact h
  · intro c hcc
    rcases List.mem_append.1 hcc with hcc | hcc
    · exact h c hcc
    · exact hc _ c hcc
theorem CB.and {S : GS} (h : CB S) (a b : Int) : CB (andS a b S).2 := by
  unfold andS
  split
  · exact h
  split
  · exact h
  split
  · exact h
  exact h.gate _ fun o c hc => by simp at hc; rcases hc with rfl | rfl | rfl <;> simp
theorem CB.or {S : GS} (h : CB S) (a b : Int) : CB (orS a b S).2 := h.and (-a) (-b)
theorem CB.choose {S : GS} (h : CB S) (c a b : Int) : CB (chooseS c a b S).2 := by
  unfold chooseS
  split
  · exact h
  split
  · exact h
  exact h.gate _ fun o c hc => by simp at hc; rcases hc with rfl | rfl | rfl | rfl <;> simp
theorem CB.xor {S : GS} (h : CB S) (a b : Int) : CB (xorS a b S).2 := by
  unfold xorS
  split
  · exact h
  split
  · exact h
  split
  · exact h
  split
  · exact h
  exact h.gate _ fun o c hc => by simp at hc; rcases hc with rfl | rfl | rfl | rfl <;> simp
theorem CB.all {S : GS} (h : CB S) {l : List Int} (hl : l.length ≤ 19) : CB (allS l S).2 := by
  unfold allS
  split
  · exact h
  split
  · exact h
  split
  · exact h
  refine h.gate _ fun o c hc => ?_
  have := canonL_len l
  unfold allCls at hc
  rcases List.mem_append.1 hc with hc | hc
  · obtain ⟨x, -, rfl⟩ := List.mem_map.1 hc
    simp
  · simp at hc
    subst hc
    simp
    omega
theorem CB.xors : ∀ (ps : List (Int × Int)) {S : GS}, CB S → CB (xorsS ps S).2
  | [], S, h => h
  | p :: r, S, h => CB.xors r (h.xor p.1 p.2)
theorem CB.call {S : GS} (h : CB S) {a : ActD} {l : List Int} (hq : a.at_.length ≤ 8) : CB (callS a l S).2 := by
  unfold callS
  split
  · exact h
  split
  · exact h.and _ _
  split
  · exact h.or _ _
  split
  · exact h.xor _ _
  split
  · exact h.choose _ _ _
  split
  · exact h.all (by rw [litsA_len]; omega)
  split
  · exact h.all (by rw [negs_len, litsA_len]; omega)
  · unfold equalS
    exact (h.xors _).all (by rw [xorsS_len]; unfold halvesA; simp; omega)
theorem CB.ok {S : GS} {F : Nat → Prop} (h : CB S) (hi : GI S F) (hl : S.cl.length ≤ 100000) : ClsOk (S.n : Int) S.cl := by
  refine ⟨hl, fun j hj => ?_⟩
  have hm : S.cl.getD j [] ∈ S.cl := by simp [List.getD, hj]
  exact ⟨by have := h _ hm; omega, rightB_ok (hi.lit _ hm)⟩
/-- The formula's block alone tells its variables and how many clauses. -/
def FBlk (w : World) (f : Nat) (n : Int) (k : Nat) : Prop := ∃ a cap, Blk w f 59 #[.int .i64 n, .slice a k cap]
theorem FBlk.of {B : Nat} {w : World} {f : Nat} {n : Int} {xss : List (List Int)} (h : FAt B w f n xss) : FBlk w f n xss.length := by
  obtain ⟨h0, vl, us, h1, h2, -⟩ := h
  rcases h2.form with ⟨rfl, e, -⟩ | ⟨g, cap, rfl, -⟩
  · exact ⟨none, 0, by rw [e]; exact h1⟩
  · exact ⟨_, _, h1⟩
theorem FBlk.chg {w w' : World} {f : Nat} {n : Int} {k : Nat} {T : Nat → Prop} (h : FBlk w f n k) (hc : Chg T w w') (hn : ¬ T f) : FBlk w' f n k := by
  obtain ⟨a, cap, h⟩ := h
  exact ⟨a, cap, h.chg hc hn⟩
theorem FBlk.below {w w' : World} {f : Nat} {n : Int} {k : Nat} (h : FBlk w f n k) (hb : Below w.heap.size w w') : FBlk w' f n k := h.chg (T := fun _ => False) (Chg.of_below hb) (fun e => e)
theorem FBlk.Vars {w : World} {f : Nat} {n : Int} {k : Nat} (h : FBlk w f n k) : Calls Try.prog 9 #[.pointer (some ⟨f, 0, none⟩)] w fun e w' => e = .returned (.int .i64 n) ∧ w = w' := by
  obtain ⟨a, cap, h⟩ := h
  have c0 := h.cell 0
  clear h
  go_enter Try.func9, Try.ntmps9
  go_wp2
  go_ret
  exact ⟨rfl, rfl⟩
theorem FBlk.Len {w : World} {f : Nat} {n : Int} {k : Nat} (h : FBlk w f n k) : Calls Try.prog 50 #[.pointer (some ⟨f, 0, none⟩)] w fun e w' => e = .returned (.int .i64 k) ∧ w = w' := by
  obtain ⟨a, cap, h⟩ := h
  have HA := Lib.hid (all_ (h.cell 1))
  clear h
  go_enter Try.func50, Try.ntmps50
  go_wp2_with ((go_at_call 59; refine (HA.out).mono ?_; rintro e w' ⟨rfl, rfl⟩))
  go_ret
  exact ⟨rfl, rfl⟩
end Go.Proofs.Ytkofhilgehhopaa
/-
  What made leaves, and its step.
-/
namespace Go.Proofs.Ytkofhilgehhopaa
open Go Go.ChangeShapes Go.WideShapes Go.ChangeAt Go.RowKit Go.Maps
set_option linter.unusedVariables false
set_option linter.unusedSimpArgs false
/-- What made has behind j acts. -/
def MadeR (w0 : World) (g f m : Nat) (xs : List ActD) (j : Nat) (vl : Value) (wr : World) : Prop :=
  ∃ l S F fp, MdI (xs.take j) l S F ∧ CB S ∧ GMem fp w0.heap.size wr g f m S ∧ RowG fp wr m vl l ∧ (∀ b, vl.ownBlock = some b → w0.heap.size ≤ b ∧ b ≠ g) ∧ Below w0.heap.size w0 wr ∧ ∀ i, i < j → FineD (xs.getD i act0) (i + 1)
section
variable {w0 W : World} {fp : Nat → Prop} {g f m : Nat} {xs : List ActD}
theorem MadeR.start (h : GMem fp w0.heap.size W g f m ⟨1, [[1]], []⟩) (hb : Below w0.heap.size w0 W) :
    MadeR w0 g f m xs 0 (.slice (some ⟨W.heap.size, 0, none⟩) 1 1) (W.alloc (.cells #[.int .i64 1] 3)) := by
  have hA : Below W.heap.size W (W.alloc (.cells #[.int .i64 1] 3)) := al1 _ _
  obtain ⟨D, hrep, hG⟩ := h
  have hfl := hG.fo.lt'
  have hml := hG.mp.lt
  have hgl := hG.bk.lt
  have hs := hb.size
  refine ⟨[1], _, _, fp, MdI.start, CB.start, ⟨D, hrep, hG.below hA⟩, ⟨?_, fun b hb' => ?_⟩, fun b hb' => ?_, hb.trans (hA.mono hs), fun i hi => by omega⟩
  · exact ⟨rfl, .inr ⟨W.heap.size, 1, #[.int .i64 1], rfl, Nat.zero_le _, heap_alloc_new W _, Nat.le_refl _, by simp [maxLen], rfl, rfl⟩⟩
  · simp [Value.ownBlock] at hb'
    subst hb'
    exact ⟨fun e => by have := hfl _ e; omega, by omega⟩
  · simp [Value.ownBlock] at hb'
    subst hb'
    exact ⟨hs, by omega⟩
theorem MadeR.app {j : Nat} {l : List Int} {S : GS} {F : Nat → Prop} {x : Int} {vl v' : Value} {w3 : World} (hM : MdI (xs.take (j + 1)) (l ++ [x]) S F) (hC : CB S) (hG : GMem fp w0.heap.size W g f m S) (hR : RowG fp W m vl l)
    (ho : ∀ b, vl.ownBlock = some b → w0.heap.size ≤ b ∧ b ≠ g) (hB : Below w0.heap.size w0 W) (hF : ∀ i, i < j + 1 → FineD (xs.getD i act0) (i + 1))
    (hp : AppPost (W.alloc (.cells #[.int .i64 x] 3)) 3 1 vl (l.length + 1) (l.map iv ++ [.int .i64 x]) v' w3) : MadeR w0 g f m xs (j + 1) v' w3 := by
  have hA : Below W.heap.size W (W.alloc (.cells #[.int .i64 x] 3)) := al1 _ _
  obtain ⟨D, hrep, hG⟩ := hG
  have hfl := hG.fo.lt'
  have hml := hG.mp.lt
  have hgl := hG.bk.lt
  have hs := hB.size
  have hcs : Chg (fun y => vl.ownBlock = some y) W w3 := ((Chg.of_below (S := fun _ => False) hA).mono (fun _ e => e.elim)).trans hp.2.1 (fun i hi => .inl hi)
  refine ⟨_, S, F, fp, hM, hC, ⟨D, hrep, hG.chgT hcs (fun y hy => .inr ⟨(ho y hy).2, (hR.o y hy).1, (hR.o y hy).2⟩)⟩, hR.app (fun y e => hfl y e) hml hp, fun b hb => ?_, hB.trans (hcs.below hs (fun i hi => (ho i hi).1)), hF⟩
  rcases hp.2.2 with e | e
  · rw [e] at hb; exact ho b hb
  · rw [e] at hb
    simp at hb
    omega
theorem take_snocA {xs : List ActD} {j : Nat} (h : j < xs.length) : xs.take (j + 1) = xs.take j ++ [xs.getD j act0] := by
  rw [List.take_succ_eq_append_getElem h]; simp [List.getD, h]
/-- One act more: what it is worth. -/
theorem made_step {j : Nat} {l : List Int} {S : GS} {F : Nat → Prop} (hj : j < xs.length) (hj9 : j < 60) (hM : MdI (xs.take j) l S F) (hC : CB S) (ha : FineD (xs.getD j act0) (j + 1)) :
    ∃ x S2 F2, (x, S2) = callS (xs.getD j act0) l S ∧ MdI (xs.take (j + 1)) (l ++ [x]) S2 F2 ∧ CB S2 ∧ x ≠ 0 ∧ S.n ≤ S2.n ∧ S2.n ≤ S.n + costV (xs.getD j act0) ∧ S2.cl.length ≤ S.cl.length + costC (xs.getD j act0) ∧ S.n ≤ 541 ∧ S.cl.length ≤ 2461 ∧ S.tab.length ≤ 540 ∧ S2.n ≤ 541 ∧ S2.cl.length ≤ 2461 ∧ S2.tab.length ≤ 540 ∧ -541 ≤ x ∧ x ≤ 541 ∧
      ((xs.getD j act0).k ≠ 0 → callS (xs.getD j act0) l S2 = (x, S2)) ∧ l.length = j + 1 := by
  generalize hA : xs.getD j act0 = a at *
  have hlt : (xs.take j).length = j := by rw [List.length_take]; omega
  have hlen : l.length = j + 1 := by rw [hM.len, hlt]
  have hn := hM.nb
  have hc := hM.cb
  have ht := hM.tb
  rw [hlt] at hn hc ht
  have ha' : FineD a l.length := by rw [hlen]; exact ha
  have hts : xs.take (j + 1) = xs.take j ++ [a] := by rw [take_snocA hj, hA]
  have hlt1 : (xs.take (j + 1)).length = j + 1 := by rw [List.length_take]; omega
  by_cases hk : a.k = 0
  · have hm := hM.fresh hk
    rw [← hts] at hm
    have e : callS a l S = (((S.n + 1 : Nat) : Int), ⟨S.n + 1, S.cl, S.tab⟩) := by unfold callS; rw [if_pos hk]
    have hv : costV a = 1 := by unfold costV; rw [if_pos (.inl hk)]
    exact ⟨_, _, _, e.symm, hm, hC, by omega, Nat.le_succ _, by rw [hv]; exact Nat.le_refl _, Nat.le_add_right _ _, by omega, by omega, by omega, by show S.n + 1 ≤ 541; omega, by show S.cl.length ≤ _; omega, by show S.tab.length ≤ _; omega, by omega, by omega, fun q => absurd hk q, hlen⟩
  · have hm := hM.call ha' hk (by omega)
    rw [← hts] at hm
    have hr := call_res hM.gi hM.ok ha' hk (by omega)
    have h1 := hm.nb
    have h2 := hm.cb
    have h3 := hm.tb
    rw [hlt1] at h1 h2 h3
    obtain ⟨o0, o1, o2⟩ := hr.ok
    exact ⟨(callS a l S).1, (callS a l S).2, F, rfl, hm, hC.call ha.len, o0, hr.ext.n, hr.nb, hr.cb, by omega, by omega, by omega, by omega, by omega, by omega, by omega, by omega, fun _ => hr.again _ (ExtS.refl _), hlen⟩
end
end Go.Proofs.Ytkofhilgehhopaa
/-
  The law's made, walked.
-/
namespace Go.Proofs.Ytkofhilgehhopaa
open Go Go.ChangeShapes Go.WideShapes Go.ChangeAt Go.RowKit Go.Maps
set_option linter.unusedVariables false
set_option linter.unusedSimpArgs false
attribute [local go_sem ↓] Go.wp_at_zero Go.wp_at_succ
def MadeQ (w0 : World) (g f m : Nat) (xs : List ActD) (e : Ending) (w' : World) : Prop :=
  (e = .returned (.tuple #[.slice none 0 0, .bool false, .bool true]) ∧ ∃ fp S, GMem fp w0.heap.size w' g f m S ∧ Below w0.heap.size w0 w') ∨ ∃ vl, e = .returned (.tuple #[vl, .bool true, .bool true]) ∧ xs.length ≤ 60 ∧ MadeR w0 g f m xs xs.length vl w'
/-- What a call of the gates leaves, opened. -/
theorem GLeft.open_ {fp : Nat → Prop} {B : Nat} {w : World} {g f m : Nat} {S : GS} {w' : World} (h : GLeft fp B w g f m S w') : ∃ fp', GMem fp' B w' g f m S ∧ Chg (fun x => fp x ∨ x = m) w w' ∧ (∀ x, fp' x → fp x ∨ w.heap.size ≤ x) ∧ Below B w w' := by
  obtain ⟨D, h1, fp', h2, h3, h4, h5⟩ := h
  exact ⟨fp', ⟨D, h1, h2⟩, h3, h4, h5⟩
theorem GMem.bd {fp : Nat → Prop} {B : Nat} {w : World} {g f m : Nat} {S : GS} (h : GMem fp B w g f m S) : (∀ x, fp x → x < w.heap.size) ∧ m < w.heap.size := by
  obtain ⟨D, h1, h2⟩ := h
  exact ⟨h2.fo.lt', h2.mp.lt⟩
theorem form_M {fp : Nat → Prop} {B : Nat} {w : World} {g f m : Nat} {S : GS} {F : Nat → Prop} (h : GMem fp B w g f m S) (hi : GI S F) (hC : CB S) (hn : S.n ≤ 541) (hc : S.cl.length ≤ 2461) :
    Calls Try.prog 8 #[.pointer (some ⟨g, 0, none⟩)] w fun e w' => ∃ f', e = .returned (.pointer (some ⟨f', 0, none⟩)) ∧ FAt w.heap.size w' f' (S.n : Int) S.cl ∧ Below w.heap.size w w' := by
  obtain ⟨D, h1, h2⟩ := h
  exact Formula_ h2 (by omega) (by omega) (hC.ok hi (by omega))
set_option maxHeartbeats 32000000 in
set_option maxRecDepth 100000 in
theorem made_ {w0 w : World} {fp : Nat → Prop} {g f m : Nat} (h : GMem fp w0.heap.size w g f m ⟨1, [[1]], []⟩) (hb : Below w0.heap.size w0 w) {v : Value} {xs : List ActD} (hv : ActsS w0 v xs) :
    Calls Try.prog 21 #[.pointer (some ⟨g, 0, none⟩), v] w fun e w' => MadeQ w0 g f m xs e w' := by
  have HST := Lib.hid (MadeR.start (xs := xs) h hb)
  have HBL := Lib.hid (hb.trans ((al1 w (.cells #[.int .i64 1] 3)).mono hb.size))
  have HG0 := Lib.hid (h.below (al1 w (.cells #[.int .i64 1] 3)))
  have HV := Lib.hid hv
  obtain ⟨aa, ac, rfl, hq1, hq2⟩ := hv.form
  have HT : Hid (Calls Try.prog 15 #[.pointer (some ⟨g, 0, none⟩)] w fun e w' => e = .returned (.int .i64 1) ∧ w = w') := Lib.hid (by obtain ⟨D, -, h2⟩ := h; exact True_ h2)
  obtain ⟨q, hq⟩ : ∃ q, q = xs.length := ⟨_, rfl⟩
  rw [← hq] at hq1 ⊢
  have HQ := Lib.hid hq
  have q0 : (0 : Int) ≤ (q : Int) := by omega
  have q9 : (q : Int) ≤ 9223372036854775807 := by have : q ≤ maxLen := Nat.le_trans hq1 hq2; unfold maxLen at this; omega
  clear h hb hv hq hq1 hq2
  by_cases hbig : (60 : Int) < (q : Int)
  · go_enter Try.func21, Try.ntmps21
    go_wp2_with ((go_at_call 15; refine (HT.out).mono ?_; rintro e w' ⟨rfl, rfl⟩))
    go_returns
    exact .inl ⟨rfl, _, _, HG0.out, HBL.out⟩
  go_enter Try.func21, Try.ntmps21
  go_wp2_with ((go_at_call 15; refine (HT.out).mono ?_; rintro e w' ⟨rfl, rfl⟩))
  go_loopw [7, 8, 9, 10, 11, 12, 13] (fun vl i _ _ _ _ _ wr => ∃ j : Nat, j ≤ q ∧ i = .int .i64 j ∧ MadeR w0 g f m xs j vl wr) (fun _ i _ _ _ _ _ _ => q - (intOf i).toNat)
  case atStart => exact ⟨0, Nat.zero_le _, rfl, HST.out⟩
  case round =>
    obtain ⟨j, hj, rfl, hMR⟩ := hrel
    by_cases hlt : (j : Int) < (q : Int)
    · have hjq : j < xs.length := by have := HQ.out; omega
      have hj9 : j < 60 := by omega
      obtain ⟨l, S, F, fp1, hMd, hCB, hG, hR, ho, hB, hF⟩ := hMR
      have hlt' : (xs.take j).length = j := by rw [List.length_take]; omega
      have hlen : l.length = j + 1 := by rw [hMd.len, hlt']
      obtain ⟨b, off, cap, va, vn, he, hva, hcell⟩ := HV.out.at_ hjq
      rw [← HQ.out] at he
      injection he with e1 e2 e3
      subst e1 e3
      clear e2
      have hrr := hR.r
      rw [hlen] at hrr
      rcases hrr.form with ⟨-, h0, -⟩ | ⟨gl, lc, rfl, -, -, -, -⟩
      · omega
      have HCELL := Lib.hid hcell
      have HVA := Lib.hid hva
      obtain ⟨c0, c1, c2, c3⟩ := hcell _ hB
      obtain ⟨a, ha⟩ : ∃ a, a = xs.getD j act0 := ⟨_, rfl⟩
      rw [← ha] at HCELL HVA c0 c3
      have HA := Lib.hid ha
      have hfi := Fine_ (HVA.out.below hB) (j + 1) (by omega)
      have e1 : (((j + 1 : Nat)) : Int) = (j : Int) + 1 := by omega
      rw [e1] at hfi
      have HFI := Lib.hid hfi
      have HMD := Lib.hid hMd
      have HCB := Lib.hid hCB
      have HG := Lib.hid hG
      have HR := Lib.hid hR
      have HO := Lib.hid ho
      have HB := Lib.hid hB
      have HF := Lib.hid hF
      have HLEN := Lib.hid hlen
      generalize hkk : a.k = k at *
      generalize hfr : a.fr = fr at *
      have HKK := Lib.hid hkk
      clear hMd hCB hG hR ho hB hF hlen hva hcell hfi hrr ha hlt' e1 hkk hfr
      by_cases hfine : fineA a (j + 1) = true
      · rw [hfine] at HFI
        have hfd := fineA_iff hfine
        obtain ⟨x, S2, F2, hcs, hMd2, hCB2, hx0, n1, n2, l2, b1, b2, b3, d1, d2, d3, x1, x2, hag, -⟩ := made_step (xs := xs) hjq hj9 HMD.out HCB.out (by rw [← HA.out]; exact hfd)
        rw [← HA.out] at hcs n2 l2 hag
        have HMD2 := Lib.hid hMd2
        have HCB2 := Lib.hid hCB2
        have HAG := Lib.hid hag
        have HFD := Lib.hid hfd
        have HCS := Lib.hid hcs
        have HSZ := Lib.hid (show (S.n ≤ 541 ∧ S.cl.length ≤ 2461 ∧ S.tab.length ≤ 540) ∧ (S2.n ≤ 541 ∧ S2.cl.length ≤ 2461 ∧ S2.tab.length ≤ 540) from ⟨⟨b1, b2, b3⟩, ⟨d1, d2, d3⟩⟩)
        have HSN := Lib.hid (show S.n ≤ S2.n ∧ S2.n ≤ S.n + costV a ∧ S2.cl.length ≤ S.cl.length + costC a from ⟨n1, n2, l2⟩)
        have HX0 := Lib.hid hx0
        have HX1 := Lib.hid x1
        have HX2 := Lib.hid x2
        clear hMd2 hCB2 hag hfd hcs n1 n2 l2 b1 b2 b3 d1 d2 d3 hx0 x1 x2 hfine
        go_wp2_with ((go_at_call 47; refine (HFI.out).mono ?_; rintro e wA ⟨rfl, hbA⟩))
        have HGA := Lib.hid (HG.out.below hbA)
        have HBA := Lib.hid (HB.out.trans (hbA.mono HB.out.size))
        have HRA := Lib.hid (HR.out.below hbA)
        clear hbA c0 c1 c2 c3
        refine (form_M HGA.out HMD.out.gi HCB.out HSZ.out.1.1 HSZ.out.1.2.1).mono ?_
        rintro e wB ⟨f1, rfl, hF1, hbB⟩
        have HF1 : Hid (wA.heap.size ≤ f1) := Lib.hid hF1.1
        have HK1 := Lib.hid (FBlk.of hF1)
        have HFP := Lib.hid HGA.out.bd
        have HGB := Lib.hid (HGA.out.below hbB)
        have HBB := Lib.hid (HBA.out.trans (hbB.mono HBA.out.size))
        have HRB := Lib.hid (HRA.out.below hbB)
        obtain ⟨c0, c1, c2, c3⟩ := HCELL.out _ HBB.out
        clear hF1 hbB
        go_wp2_with fail
        have hca := call_ HGB.out HBB.out.size ⟨by have := HSZ.out.1.1; omega, by have := HSZ.out.1.2.1; omega, by have := HSZ.out.1.2.2; omega⟩ HMD.out.gi (HVA.out.below HBB.out) HRB.out.r.ints (by rw [HLEN.out]; exact HFD.out) HMD.out.ok (by rw [HLEN.out]; omega)
        rw [← HCS.out] at hca
        refine hca.mono ?_
        rintro e wC ⟨rfl, hL⟩
        obtain ⟨fp2, hG2, hc2, hs2, hb2⟩ := hL.open_
        have HGC := Lib.hid hG2
        have HRC := Lib.hid (HRB.out.chg hc2 hs2)
        have HKC := Lib.hid (HK1.out.chg hc2 (fun e => e.elim (fun e => by have := HFP.out.1 _ e; have := HF1.out; omega) (fun e => by have := HFP.out.2; have := HF1.out; omega)))
        have HBC := Lib.hid (HBB.out.trans hb2)
        clear hca hL hG2 hc2 hs2 hb2 c0 c1 c2 c3
        go_wp2_with fail
        refine (form_M HGC.out HMD2.out.gi HCB2.out HSZ.out.2.1 HSZ.out.2.2.1).mono ?_
        rintro e wD ⟨f2, rfl, hF2, hbD⟩
        have HK2 := Lib.hid (FBlk.of hF2)
        have HF2L : Hid (wC.heap.size ≤ f2) := Lib.hid hF2.1
        have HKD := Lib.hid (HKC.out.below hbD)
        have HGD := Lib.hid (HGC.out.below hbD)
        have HBD := Lib.hid (HBC.out.trans (hbD.mono HBC.out.size))
        have HRD := Lib.hid (HRC.out.below hbD)
        obtain ⟨c0, c1, c2, c3⟩ := HCELL.out _ HBD.out
        clear hF2 hbD
        go_wp2_with fail
        refine (Cost_ (HVA.out.below HBD.out) (by have := HFD.out.len; omega)).mono ?_
        rintro e wE ⟨rfl, hbE⟩
        have HKE2 := Lib.hid (HK2.out.below hbE)
        have HKE1 := Lib.hid (HKD.out.below hbE)
        have HGE := Lib.hid (HGD.out.below hbE)
        have HBE := Lib.hid (HBD.out.trans (hbE.mono HBD.out.size))
        have HRE := Lib.hid (HRD.out.below hbE)
        clear hbE c0 c1 c2 c3
        obtain ⟨c0, c1, c2, c3⟩ := HCELL.out _ HBE.out
        have HV1 := Lib.hid HKE1.out.Vars
        have HL1 := Lib.hid HKE1.out.Len
        have HV2 := Lib.hid HKE2.out.Vars
        have HL2 := Lib.hid HKE2.out.Len
        obtain ⟨n1, hn1⟩ : ∃ n1, n1 = S.n := ⟨_, rfl⟩
        obtain ⟨n2, hn2⟩ : ∃ n2, n2 = S2.n := ⟨_, rfl⟩
        obtain ⟨k1, hk1⟩ : ∃ k1, k1 = S.cl.length := ⟨_, rfl⟩
        obtain ⟨k2, hk2⟩ : ∃ k2, k2 = S2.cl.length := ⟨_, rfl⟩
        obtain ⟨cv, hcv⟩ : ∃ cv, cv = costV a := ⟨_, rfl⟩
        obtain ⟨cc, hcc⟩ : ∃ cc, cc = costC a := ⟨_, rfl⟩
        have HNB : Hid (n1 ≤ n2 ∧ n2 ≤ n1 + cv ∧ k2 ≤ k1 + cc ∧ n1 ≤ 541 ∧ n2 ≤ 541 ∧ k1 ≤ 2461 ∧ k2 ≤ 2461) := Lib.hid (by have := HSN.out; have := HSZ.out; omega)
        rw [← hn1] at HV1
        rw [← hn2] at HV2
        rw [← hk1] at HL1
        rw [← hk2] at HL2
        rw [← hcv, ← hcc]
        have HN2 := Lib.hid hn2
        have HK2E := Lib.hid hk2
        have t1 : ¬ (cv : Int) < (n2 : Int) - (n1 : Int) := by have := HNB.out; omega
        have t2 : ¬ (cc : Int) < (k2 : Int) - (k1 : Int) := by have := HNB.out; omega
        have t3 : ¬ (n2 : Int) < (n1 : Int) := by have := HNB.out; omega
        have t4 : (x == 0) = false := by rw [beq_eq_false_iff_ne]; exact HX0.out
        have t5 : IntKind.i64.wrap ((n2 : Int) - (n1 : Int)) = (n2 : Int) - (n1 : Int) := IntWalk.i64_in _ (by have := HNB.out; omega)
        have t6 : IntKind.i64.wrap ((k2 : Int) - (k1 : Int)) = (k2 : Int) - (k1 : Int) := IntWalk.i64_in _ (by have := HNB.out; omega)
        clear hn1 hn2 hk1 hk2 hcv hcc
        have HFS : Hid (∀ i, i < j + 1 → FineD (xs.getD i act0) (i + 1)) := Lib.hid fun i hi => by
          by_cases e : i = j
          · rw [e, ← HA.out]; exact HFD.out
          · exact HF.out i (by omega)
        rcases (show k = 0 ∨ (0 < k ∧ k ≠ 0) by have := HFD.out.k; rw [HKK.out] at this; omega) with hk | ⟨hk, hk'⟩
        · subst hk
          go_wp2_with (first | (go_at_call 9; with_reducible refine HV2.out.mono ?_; rintro e wv ⟨rfl, rfl⟩) | (go_at_call 9; with_reducible refine HV1.out.mono ?_; rintro e wv ⟨rfl, rfl⟩) | (go_at_call 50; with_reducible refine HL2.out.mono ?_; rintro e wv ⟨rfl, rfl⟩) | (go_at_call 50; with_reducible refine HL1.out.mono ?_; rintro e wv ⟨rfl, rfl⟩) | (at_builtin; refine wpList_app rfl _ _ _ rfl 3 (.int .i64 0) 1 8 Try.underlying32 infoI rfl (by decide) (.slice (some ⟨gl, 0, none⟩) (j + 1) lc) (j + 1) (l.map iv) rfl ?ho wE.heap.size 0 1 1 [.int .i64 x] rfl rfl ?hn ?hs ?c1 ?c2 ?_))
          case ho => have := HRE.out.r; rw [HLEN.out] at this; exact this.alloc _
          case hn => exact cellNew _ _ _ _ rfl
          case hs => exact oneCell1 rfl
          case c1 => unfold maxLen; omega
          case c2 => omega
          intro v' w3 hp3
          have hfin := MadeR.app HMD2.out HCB2.out HGE.out HRE.out HO.out HBE.out HFS.out (by rw [HLEN.out]; exact hp3)
          have HFIN := Lib.hid hfin
          clear hp3 hfin
          go_wp2
          go_roundw
          case rel => exact ⟨j + 1, by omega, by go_num, HFIN.out⟩
          case measure => simp [intOf]; omega
        · have HAG2 := Lib.hid (HAG.out (by rw [HKK.out]; exact hk'))
          have HFP2 := Lib.hid HGC.out.bd
          clear hk'
          go_wp2_with (first | (go_at_call 9; with_reducible refine HV2.out.mono ?_; rintro e wv ⟨rfl, rfl⟩) | (go_at_call 9; with_reducible refine HV1.out.mono ?_; rintro e wv ⟨rfl, rfl⟩) | (go_at_call 50; with_reducible refine HL2.out.mono ?_; rintro e wv ⟨rfl, rfl⟩) | (go_at_call 50; with_reducible refine HL1.out.mono ?_; rintro e wv ⟨rfl, rfl⟩))
          have hca := call_ HGE.out HBE.out.size ⟨by have := HSZ.out.2.1; omega, by have := HSZ.out.2.2.1; omega, by have := HSZ.out.2.2.2; omega⟩ HMD2.out.gi (HVA.out.below HBE.out) HRE.out.r.ints (by rw [HLEN.out]; exact HFD.out) (fun y hy => HMD2.out.ok y (List.mem_append_left _ hy)) (by rw [HLEN.out]; omega)
          rw [HAG2.out] at hca
          refine hca.mono ?_
          rintro e wF ⟨rfl, hL⟩
          obtain ⟨fp3, hG3, hc3, hs3, hb3⟩ := hL.open_
          have HGF := Lib.hid hG3
          have HRF := Lib.hid (HRE.out.chg hc3 hs3)
          have HKF := Lib.hid (HKE2.out.chg hc3 (fun e => e.elim (fun e => by have := HFP2.out.1 _ e; have := HF2L.out; omega) (fun e => by have := HFP2.out.2; have := HF2L.out; omega)))
          have HBF := Lib.hid (HBE.out.trans hb3)
          have u1 : (x == x) = true := by simp
          clear hca hL hG3 hc3 hs3 hb3 c0 c1 c2 c3 t1 t2 t3 t4 t5 t6
          go_wp2_with fail
          refine (form_M HGF.out HMD2.out.gi HCB2.out HSZ.out.2.1 HSZ.out.2.2.1).mono ?_
          rintro e wG ⟨f3, rfl, hF3, hbG⟩
          have HLG3 := Lib.hid (FBlk.of hF3).Len
          have HKG := Lib.hid (HKF.out.below hbG)
          have HLG2 := Lib.hid HKG.out.Len
          have HGG := Lib.hid (HGF.out.below hbG)
          have HBG := Lib.hid (HBF.out.trans (hbG.mono HBF.out.size))
          have HRG := Lib.hid (HRF.out.below hbG)
          rw [← HK2E.out] at HLG3 HLG2
          clear hF3 hbG
          go_wp2_with (first | (go_at_call 50; with_reducible refine HLG3.out.mono ?_; rintro e wv ⟨rfl, rfl⟩) | (go_at_call 50; with_reducible refine HLG2.out.mono ?_; rintro e wv ⟨rfl, rfl⟩))
          refine (form_M HGG.out HMD2.out.gi HCB2.out HSZ.out.2.1 HSZ.out.2.2.1).mono ?_
          rintro e wH ⟨f4, rfl, hF4, hbH⟩
          have HVH4 := Lib.hid (FBlk.of hF4).Vars
          have HKH := Lib.hid (HKG.out.below hbH)
          have HVH2 := Lib.hid HKH.out.Vars
          have HGH := Lib.hid (HGG.out.below hbH)
          have HBH := Lib.hid (HBG.out.trans (hbH.mono HBG.out.size))
          have HRH := Lib.hid (HRG.out.below hbH)
          rw [← HN2.out] at HVH4 HVH2
          clear hF4 hbH
          go_wp2_with (first | (go_at_call 9; with_reducible refine HVH4.out.mono ?_; rintro e wv ⟨rfl, rfl⟩) | (go_at_call 9; with_reducible refine HVH2.out.mono ?_; rintro e wv ⟨rfl, rfl⟩) | (at_builtin; refine wpList_app rfl _ _ _ rfl 3 (.int .i64 0) 1 8 Try.underlying32 infoI rfl (by decide) (.slice (some ⟨gl, 0, none⟩) (j + 1) lc) (j + 1) (l.map iv) rfl ?ho wH.heap.size 0 1 1 [.int .i64 x] rfl rfl ?hn ?hs ?c1 ?c2 ?_))
          case ho => have := HRH.out.r; rw [HLEN.out] at this; exact this.alloc _
          case hn => exact cellNew _ _ _ _ rfl
          case hs => exact oneCell1 rfl
          case c1 => unfold maxLen; omega
          case c2 => omega
          intro v' w3 hp3
          have hfin := MadeR.app HMD2.out HCB2.out HGH.out HRH.out HO.out HBH.out HFS.out (by rw [HLEN.out]; exact hp3)
          have HFIN := Lib.hid hfin
          clear hp3 hfin
          go_wp2
          go_roundw
          case rel => exact ⟨j + 1, by omega, by go_num, HFIN.out⟩
          case measure => simp [intOf]; omega
      · have hff : fineA a (j + 1) = false := by simpa using hfine
        rw [hff] at HFI
        clear hfine hff
        go_wp2_with ((go_at_call 47; refine (HFI.out).mono ?_; rintro e wA ⟨rfl, hbA⟩))
        go_returns
        exact .inl ⟨rfl, _, _, HG.out.below hbA, HB.out.trans (hbA.mono HB.out.size)⟩
    · have hjn : j = q := by omega
      have HMR := Lib.hid hMR
      subst hjn
      clear hMR
      go_wp2
      go_returns
      exact .inr ⟨_, rfl, by have := HQ.out; omega, by rw [← HQ.out]; exact HMR.out⟩
end Go.Proofs.Ytkofhilgehhopaa
