/-
  Package gates: the clauses that All's closure puts.
-/
import Derived.Test.YtkofhilgehhopaaGuS
import Derived.Test.YtkofhilgehhopaaGuF
import Derived.Test.YtkofhilgehhopaaShelf
import Derived.Lib.RowBridge
namespace Go.Proofs.Ytkofhilgehhopaa
open Go Go.ChangeShapes Go.WideShapes Go.ChangeAt Go.RowKit Go.Maps
set_option linter.unusedVariables false
set_option linter.unusedSimpArgs false
attribute [local go_sem ↓] Go.wp_at_zero Go.wp_at_succ
/-- A row that is none of the gates' blocks. -/
structure RowG (fp : Nat → Prop) (w : World) (m : Nat) (v : Value) (l : List Int) : Prop where
  r : Row w 3 1 v l.length (l.map iv)
  o : ∀ b, v.ownBlock = some b → ¬ fp b ∧ b ≠ m
section
variable {fp fp1 : Nat → Prop} {B : Nat} {w w1 : World} {g f m bx pc : Nat} {n : Int} {xss : List (List Int)} {D : DataW Unit}
theorem RowG.chg {v : Value} {l : List Int} (h : RowG fp w m v l) (hc : Chg (fun x => fp x ∨ x = m) w w1) (hs : ∀ x, fp1 x → fp x ∨ w.heap.size ≤ x) : RowG fp1 w1 m v l :=
  ⟨h.r.chg hc (fun b hb e => e.elim (h.o b hb).1 (h.o b hb).2), fun b hb => ⟨fun e => (hs b e).elim (h.o b hb).1 (fun q => by have := h.r.lt b hb; omega), (h.o b hb).2⟩⟩
theorem RowG.below {v : Value} {l : List Int} (h : RowG fp w m v l) (hb : Below w.heap.size w w1) : RowG fp w1 m v l :=
  ⟨h.r.chg (S := fun _ => False) (Chg.of_below hb) (fun _ _ e => e), h.o⟩
theorem RowG.app {v v' : Value} {l : List Int} {x : Int} (h : RowG fp w m v l) (hf : ∀ y, fp y → y < w.heap.size) (hm : m < w.heap.size) (hp : AppPost (w.alloc (.cells #[.int .i64 x] 3)) 3 1 v (l.length + 1) (l.map iv ++ [.int .i64 x]) v' w1) : RowG fp w1 m v' (l ++ [x]) := by
  obtain ⟨p1, p2, p3⟩ := hp
  refine ⟨by rw [List.length_append, List.map_append]; exact p1, fun b hb => ?_⟩
  rcases p3 with e | e
  · rw [e] at hb; exact h.o b hb
  · rw [e] at hb
    simp at hb
    exact ⟨fun e => by have := hf _ e; omega, by omega⟩
theorem GAt.chgT (h2 : GAt fp B w g f m n xss D) {w' : World} {T : Nat → Prop} (hc : Chg T w w') (hT : ∀ x, T x → w.heap.size ≤ x ∨ (x ≠ g ∧ ¬ fp x ∧ x ≠ m)) : GAt fp B w' g f m n xss D := by
  have hgl := h2.bk.lt
  have hml := h2.mp.lt
  have hfl := h2.fo.lt'
  refine ⟨h2.ge, h2.bk.chg hc (fun e => ?_), h2.fo.chg hc (fun x hx e => ?_), ?_, h2.mB, h2.gm, h2.gf, h2.mf⟩
  · rcases hT g e with e | e
    · omega
    · exact e.1 rfl
  · rcases hT x e with e | e
    · have := hfl x hx; omega
    · exact e.2.1 hx
  · obtain ⟨es, clock, hm, F, hs, hD⟩ := h2.mp
    exact ⟨es, clock, hc.at_ hm (fun e => by
      rcases hT m e with e | e
      · omega
      · exact e.2.2 rfl), F, hs, hD⟩
theorem row1 (w : World) (x : Int) : Row (w.alloc (.cells #[.int .i64 x] 3)) 3 1 (.slice (some ⟨w.heap.size, 0, none⟩) 1 1) [x].length ([x].map iv) :=
  ⟨by simp, .inr ⟨w.heap.size, 1, #[.int .i64 x], rfl, Nat.zero_le _, heap_alloc_new w _, Nat.le_refl _, by unfold maxLen; omega, by simp, by simp [iv]⟩⟩
def pairs (out : Int) (c : List Int) : List (List Int) := c.map fun x => [-out, x]
def PutR (fp : Nat → Prop) (B : Nat) (w : World) (g f m : Nat) (n : Int) (xss : List (List Int)) (D : DataW Unit) (bx : Nat) (vc : Value) (c : List Int) (out : Int) (k : Nat) (so : Value) (wr : World) : Prop :=
  ∃ fp', GAt fp' B wr g f m n (xss ++ pairs out (c.take k)) D ∧ Chg (fun x => fp x ∨ x = m) w wr ∧ (∀ x, fp' x → fp x ∨ w.heap.size ≤ x) ∧ Below B w wr ∧ BoxG fp' wr m bx (.pointer (some ⟨g, 0, none⟩)) ∧ RowG fp' wr m vc c ∧ RowG fp' wr m so (out :: negs (c.take k)) ∧ ∀ b, so.ownBlock = some b → w.heap.size ≤ b
theorem pairs_snoc (out : Int) {c : List Int} {k : Nat} (h : k < c.length) : pairs out (c.take (k + 1)) = pairs out (c.take k) ++ [[-out, c.getD k 0]] := by
  unfold pairs; rw [take_snocI h, List.map_append]; rfl
theorem negs_snoc {c : List Int} {k : Nat} (h : k < c.length) : negs (c.take (k + 1)) = negs (c.take k) ++ [-(c.getD k 0)] := by
  unfold negs; rw [take_snocI h, List.map_append]; rfl
set_option maxHeartbeats 4000000 in
set_option maxRecDepth 100000 in
theorem all_put (h : GAt fp B w g f m n xss D) {c : List Int} {vc : Value} {out : Int} (hx : BoxG fp w m bx (.pointer (some ⟨g, 0, none⟩))) (hpc : BoxG fp w m pc vc) (hrc : RowG fp w m vc c) (hB : B ≤ w.heap.size) (hc2 : 2 ≤ c.length) (hc9 : c.length ≤ 100) (hn : xss.length ≤ 98000 ∧ n ≤ 65536 ∧ 0 ≤ n)
    (ho : 1 ≤ out ∧ out ≤ n) (hok : ∀ x ∈ c, okL n.toNat x) :
    Calls Try.prog 44 #[.int .i64 out, .func (.func 62) #[] #[.pointer (some ⟨bx, 0, none⟩)], .pointer (some ⟨pc, 0, none⟩)] w fun e w' => e = .returned (.tuple #[]) ∧ GSt fp B w g f m n (xss ++ allCls c out) D w' := by
  obtain ⟨o0, o1⟩ := ho
  obtain ⟨q, hq⟩ : ∃ q, q = c.length := ⟨_, rfl⟩
  have hrc' := hrc.r
  rw [← hq] at hrc' hc2 hc9
  rcases hrc'.form with ⟨-, h0, -⟩ | ⟨gc, cap, hvc, -, -, -, hcell⟩
  · omega
  have hW0 := al1 w (.cells #[.int .i64 out] 3)
  have hst : PutR fp B w g f m n xss D bx vc c out 0 (.slice (some ⟨w.heap.size, 0, none⟩) 1 1) (w.alloc (.cells #[.int .i64 out] 3)) := by
    refine ⟨fp, by simpa [pairs] using h.below hW0, (Chg.of_below (S := fun _ => False) hW0).mono (fun _ e => e.elim), fun x e => .inl e, hW0.mono hB, hx.below hW0, hrc.below hW0, ⟨row1 w out, fun b hb => ?_⟩, fun b hb => ?_⟩
    · simp [Value.ownBlock] at hb
      exact ⟨fun e => by have := h.fo.lt' _ e; omega, by have := h.mp.lt; omega⟩
    · simp [Value.ownBlock] at hb
      omega
  have HST := Lib.hid hst
  have b0 := hpc.c
  have hpl := hpc.lt
  have HLO : Hid (g < w.heap.size ∧ bx < w.heap.size ∧ gc < w.heap.size) := Lib.hid ⟨h.bk.lt, hx.lt, by have := hrc'.lt gc (by rw [hvc]; rfl); exact this⟩
  have HQ := Lib.hid hq
  have HN := Lib.hid hn
  have HOK := Lib.hid hok
  have HB := Lib.hid hB
  subst hvc
  have n9 : n ≤ 65536 := hn.2.1
  have hq1 : (q : Int) ≤ 100 := by omega
  clear h hx hpc hrc hrc' hcell hst hq hn hok hW0
  go_enter Try.func44, Try.ntmps44
  go_wp2_with fail
  go_loopw [5, 12] (fun so i wr => ∃ k : Nat, k ≤ q ∧ i = .int .i64 (k : Nat) ∧ PutR fp B w g f m n xss D bx (.slice (some ⟨gc, 0, none⟩) q cap) c out k so wr) (fun _ i _ => q - (intOf i).toNat)
  case atStart => exact ⟨0, Nat.zero_le _, rfl, HST.out⟩
  case round =>
    obtain ⟨k, hk, rfl, fp1, hG, hch, hfp, hbl, hbx, hrc, hrs, hbo⟩ := hrel
    have HBO := Lib.hid hbo
    have hBr : B ≤ wr.heap.size := Nat.le_trans HB.out hch.size
    by_cases hlt : (k : Int) < (q : Int)
    · have hkn : k < c.length := by have := HQ.out; omega
      obtain ⟨x, hxx⟩ : ∃ x, x = c.getD k 0 := ⟨_, rfl⟩
      have c1 : wr.cell? ⟨gc, k, none⟩ = some (.int .i64 x) := by
        have hr := hrc.r
        rw [← HQ.out] at hr
        rcases hr.form with ⟨e, -, -⟩ | ⟨gc', cap', e, -, -, -, hcell⟩
        · cases e
        · injection e with e1 e2 e3
          injection e1 with e1
          injection e1 with e1
          subst e1
          rw [(hcell k (by simp; exact hkn)).1, hxx]
          simp [List.getD, hkn, iv]
      have hxo : okL n.toNat x := HOK.out x (by rw [hxx]; simp [List.getD, hkn])
      obtain ⟨x9, x0, x1⟩ := hxo
      have hW := al1 wr (.cells #[.int .i64 (-out), .int .i64 x] 3)
      have hnn := HN.out
      have hP := put1 (hG.below hW) (hbx.below hW) (Nat.le_trans hBr hW.size) (int2 wr wr.heap.size rfl (-out) x) (by
        unfold rightB
        simp
        omega) (by simp) ⟨by rw [List.length_append]; unfold pairs; simp; omega, hnn.2⟩
      have HP := Lib.hid hP
      have HPS : Hid (pairs out (c.take (k + 1)) = pairs out (c.take k) ++ [[-out, x]]) := Lib.hid (by rw [hxx]; exact pairs_snoc out hkn)
      have HNS : Hid (negs (c.take (k + 1)) = negs (c.take k) ++ [-x]) := Lib.hid (by rw [hxx]; exact negs_snoc hkn)
      have HX := Lib.hid (hbx.below (fp := fp1) hW)
      have HRC := Lib.hid (hrc.below hW)
      have HRS := Lib.hid (hrs.below hW)
      have HW := Lib.hid hW
      have HCH := Lib.hid hch
      have HFP := Lib.hid hfp
      have HBL := Lib.hid hbl
      have HBR := Lib.hid hBr
      have HLN : Hid ((out :: negs (c.take k)).length ≤ 101) := Lib.hid (by rw [List.length_cons, negs_len, List.length_take]; omega)
      obtain ⟨sl, hsl⟩ : ∃ sl, sl = out :: negs (c.take k) := ⟨_, rfl⟩
      rw [← hsl] at HRS HLN
      have HSL := Lib.hid hsl
      have xb0 : -65536 ≤ x := by omega
      have xb1 : x ≤ 65536 := by omega
      clear hG hch hfp hbl hbx hrc hrs hbo hBr hkn hxx hW hnn hP hsl x9 x0 x1
      go_wp2_with fail
      refine HP.out.mono ?_
      rintro e w2 ⟨rfl, fp2, hG2, hc0, hs0, hb0⟩
      have hrs2 := HRS.out.chg hc0 hs0
      have HG2 := Lib.hid hG2
      have HX2 := Lib.hid (HX.out.chg hc0 hs0)
      have HRC2 := Lib.hid (HRC.out.chg hc0 hs0)
      have HRS2 := Lib.hid hrs2
      have HC0 := Lib.hid hc0
      have HS0 := Lib.hid hs0
      have HB0 := Lib.hid hb0
      clear hG2 hrs2 hc0 hs0 hb0 c1
      go_wp2_with (at_builtin; refine wpList_app rfl _ _ _ rfl 3 (.int .i64 0) 1 8 Try.underlying32 infoI rfl (by decide) u5 sl.length (sl.map iv) rfl ?ho w2.heap.size 0 1 1 [.int .i64 (-x)] rfl rfl ?hn ?hs ?c1 ?c2 ?_)
      case ho => exact HRS2.out.r.alloc _
      case hn => exact cellNew _ _ _ _ rfl
      case hs => exact oneCell1 rfl
      case c1 => unfold maxLen; have := HLN.out; omega
      case c2 => have := HLN.out; omega
      intro v' w3 hp3
      have HF : Hid (PutR fp B w g f m n xss D bx (.slice (some ⟨gc, 0, none⟩) q cap) c out (k + 1) v' w3) := Lib.hid (by
        have hA : Below w2.heap.size w2 (w2.alloc (.cells #[.int .i64 (-x)] 3)) := al1 _ _
        have hG2 := HG2.out
        have hfl := hG2.fo.lt'
        have hml := hG2.mp.lt
        have hrs3 := HRS2.out.app (fun y e => by have := hfl y e; omega) hml hp3
        have hcs : Chg (fun y => u5.ownBlock = some y) w2 w3 := ((Chg.of_below (S := fun _ => False) hA).mono (fun _ e => e.elim)).trans hp3.2.1 (fun i hi => .inl hi)
        obtain ⟨l1, l2, l3⟩ := HLO.out
        have s1 := HCH.out.size
        have s2 := HW.out.size
        have s3 := HC0.out.size
        have hHB := HB.out
        have hG3 := hG2.chgT hcs (fun y hy => .inr ⟨by have := HBO.out y hy; omega, (HRS2.out.o y hy).1, (HRS2.out.o y hy).2⟩)
        have hc12 : Chg (fun x => fp x ∨ x = m) w w2 := (HCH.out.trans ((Chg.of_below (S := fun _ => False) HW.out).mono (fun _ e => e.elim)) (fun i hi => hi)).trans HC0.out (fun i hi => by
          rcases hi with hi | hi
          · rcases HFP.out i hi with e | e
            · exact .inl (.inl e)
            · exact .inr e
          · exact .inl (.inr hi))
        refine ⟨fp2, by rw [HPS.out, ← List.append_assoc]; exact hG3, hc12.trans hcs (fun i hi => .inr (HBO.out i hi)), fun x hx => ?_, ?_, ?_, ?_, ?_, fun b hb => ?_⟩
        · rcases HS0.out x hx with e | e
          · exact HFP.out x e
          · exact .inr (by omega)
        · exact ((HBL.out.trans (HW.out.mono HBR.out)).trans HB0.out).trans (hcs.below (by omega) (fun i hi => by have := HBO.out i hi; omega))
        · obtain ⟨k1, k2, k3⟩ := HX2.out
          exact ⟨(World.cell?_of_block (w := w2) (hcs.block bx (by omega) (fun e => by have := HBO.out bx e; omega))).trans k1, k2, k3⟩
        · exact ⟨HRC2.out.r.chg hcs (fun b hb e => by
            have hb : some gc = some b := hb
            injection hb with hb
            have := HBO.out b e
            omega), HRC2.out.o⟩
        · rw [HNS.out, ← List.cons_append, ← HSL.out]
          exact hrs3
        · rcases hp3.2.2 with e | e
          · rw [e] at hb; exact HBO.out b hb
          · rw [e] at hb; simp at hb; omega)
      clear hp3
      go_wp2
      go_roundw
      case rel => exact ⟨k + 1, by omega, by go_num, HF.out⟩
      case measure => simp [intOf]; omega
    · have hkn : k = c.length := by have := HQ.out; omega
      rw [hkn, List.take_length] at hG hrs
      have hln : (out :: negs c).length ≤ 1000 := by rw [List.length_cons, negs_len]; omega
      have hnn := HN.out
      have hP := put1 hG hbx hBr hrs.r.ints (by
        unfold rightB
        rw [List.all_eq_true]
        intro y hy
        rw [List.mem_cons] at hy
        rcases hy with rfl | hy
        · exact decide_eq_true ⟨by omega, by omega, by omega, by omega⟩
        · obtain ⟨z, hz, rfl⟩ := List.mem_map.1 hy
          obtain ⟨z9, z0, z1⟩ := HOK.out z hz
          exact decide_eq_true ⟨by omega, by omega, by omega, by omega⟩) hln ⟨by rw [List.length_append]; unfold pairs; simp; omega, hnn.2⟩
      have HP := Lib.hid hP
      have HCH := Lib.hid hch
      have HFP := Lib.hid hfp
      have HBL := Lib.hid hbl
      clear hG hch hfp hbl hbx hrc hrs hbo hBr hkn hln hnn hP
      go_wp2_with fail
      refine HP.out.mono ?_
      rintro e w2 ⟨rfl, hG2⟩
      have HF : Hid (GSt fp B w g f m n (xss ++ allCls c out) D w2) := Lib.hid (by
        unfold allCls
        rw [← List.append_assoc]
        exact GSt.trans HCH.out HFP.out HBL.out hG2)
      clear hG2
      go_wp2
      refine bodyPost_end (v := .tuple #[]) (by first | exact results_none rfl _ _ _ | rfl | kernel_rfl) (by rfl) ?_
      exact ⟨rfl, HF.out⟩
end
end Go.Proofs.Ytkofhilgehhopaa
/-
  Package slices at numbers: Sort, Compact, DeleteFunc, Contains, ContainsFunc at All's row and closures.
-/
namespace Go.Proofs.Ytkofhilgehhopaa
open Go Go.ChangeShapes Go.WideShapes Go.ChangeAt Go.RowKit Go.Maps
open Go.Sort (Holds grow putRow)
set_option linter.unusedVariables false
set_option linter.unusedSimpArgs false
/-- A row behind a block. -/
def RowI (w : World) (g cap : Nat) (xs : List Int) : Prop := Row w 3 1 (.slice (some ⟨g, 0, none⟩) xs.length cap) xs.length (xs.map iv)
theorem RowI.parts {w : World} {g cap : Nat} {xs : List Int} (h : RowI w g cap xs) : ∃ cur, w.heap[g]? = some (.cells cur 3 (0, 0)) ∧ xs.length ≤ cap ∧ cap ≤ maxLen ∧ cur.size = cap * 1 ∧ cur.toList.take xs.length = xs.map (Value.int .i64) := by
  obtain ⟨hl, h⟩ := h
  rcases h with ⟨h, -⟩ | ⟨g', cap', cur, hv, h0, h1, h2, h3, h4, h5⟩
  · cases h
  · injection hv with e1 e2 e3
    injection e1 with e1
    injection e1 with e1
    subst e1 e3
    rw [Nat.mul_one] at h5
    exact ⟨cur, h1, h2, h3, h4, h5⟩
theorem RowI.turn {w : World} {g cap n : Nat} {os : Array Obj} {xs ts : List Int} (h : RowI w g cap xs) (hl : ts.length = xs.length) : RowI (grow (putRow (Value.int .i64) (Go.Sort.ahead w n) g 0 ts.toArray) os) g cap ts ∧ Chg (fun k => k = g) w (grow (putRow (Value.int .i64) (Go.Sort.ahead w n) g 0 ts.toArray) os) := by
  obtain ⟨cur, h1, h2, h3, h4, h5⟩ := h.parts
  refine ⟨?_, ?_⟩
  · have := ownsRow_sortedI (w := w) (base := 0) (g := g) (cap := cap) (n := n) (e := 3) (os := os) (cur := cur) (ss := xs) (ts := ts) hl (Nat.zero_le _) h1 h2 h3 h4
    unfold RowI
    rw [hl]
    exact this
  · exact Chg.of_grown (S := fun k => k = g) (grownBy_sortedI (w := w) (g := g) (n := n) (os := os) ts.toArray) (fun k hk => by injection hk with hk; exact hk.symm)
theorem RowI.cut {w : World} {g cap n : Nat} {ts : List Int} (h : RowI w g cap ts) (hn : n ≤ ts.length) : RowI w g cap (ts.take n) := by
  have := Row.take h n hn
  rw [Nat.mul_one, ← List.map_take] at this
  unfold RowI
  rw [List.length_take, Nat.min_eq_left hn]
  exact this
theorem sortC {w : World} {g cap : Nat} {xs : List Int} (h : RowI w g cap xs) (hs : xs.length ≤ 1000) :
    Calls Try.prog 36 #[.slice (some ⟨g, 0, none⟩) xs.length cap] w fun e w' => e = .returned (.tuple #[]) ∧ RowI w' g cap (xs.mergeSort fun x y => decide (x ≤ y)) ∧ Chg (fun k => k = g) w w' := by
  obtain ⟨cur, h1, h2, h3, h4, h5⟩ := h.parts
  have hH : Holds (Value.int .i64) w g 0 xs.toArray := holds_of_blockI h1 h5
  refine (AnyM.slices_Sort_int Try.sortA g 0 cap xs w hH (Array.getElem?_eq_some_iff.1 h1).1 (by omega)).mono fun e w' ⟨he, n, os, hw⟩ => ⟨he, ?_⟩
  rw [hw]
  exact h.turn (by simp)
theorem compC {w : World} {g cap : Nat} {xs : List Int} (h : RowI w g cap xs) (hs : xs.length ≤ 1000) :
    Calls Try.prog 38 #[.slice (some ⟨g, 0, none⟩) xs.length cap] w fun e w' => e = .returned (.slice (some ⟨g, 0, none⟩) (Lib.compact xs).length cap) ∧ RowI w' g cap (Lib.compact xs) ∧ Chg (fun k => k = g) w w' := by
  obtain ⟨cur, h1, h2, h3, h4, h5⟩ := h.parts
  have hH : Holds (Value.int .i64) w g 0 xs.toArray := holds_of_blockI h1 h5
  refine (Any.slices_Compact_int Try.compI g 0 cap xs w hH (by omega) h2).mono fun e w' ⟨he, q, hw⟩ => ⟨he, ?_⟩
  subst hw
  have hle := Lib.compact_length_le xs
  have ht := h.turn (n := q) (os := #[]) (ts := Lib.compact xs ++ List.replicate (xs.length - (Lib.compact xs).length) 0) (by simp; omega)
  rw [Go.Sort.grow_empty] at ht
  refine ⟨?_, ht.2⟩
  have := ht.1.cut (n := (Lib.compact xs).length) (by simp)
  rw [List.take_left] at this
  exact this
theorem one_closure (y : Int) (w : World) : Calls Try.prog 39 #[.int .i64 y] w fun e w' => e = .returned (.bool (y == 1)) ∧ w = w' := by
  go_enter Try.func39, Try.ntmps39
  go_wp2
  go_ret
  exact ⟨rfl, rfl⟩
theorem delC {w : World} {g cap : Nat} {xs : List Int} (h : RowI w g cap xs) (hs : xs.length ≤ 1000) :
    Calls Try.prog 37 #[.slice (some ⟨g, 0, none⟩) xs.length cap, .func (.func 39) #[] #[]] w fun e w' => e = .returned (.slice (some ⟨g, 0, none⟩) (xs.filter fun x => !(x == 1)).length cap) ∧ RowI w' g cap (xs.filter fun x => !(x == 1)) ∧ Chg (fun k => k = g) w w' := by
  obtain ⟨cur, h1, h2, h3, h4, h5⟩ := h.parts
  have eg : ∀ args w, (callFunc 39 args).run Try.prog w = .ok (.enter 39 args) w := enters_of Try.func39 (by kernel_rfl) rfl
  have hH : Holds (Value.int .i64) w g 0 xs.toArray := holds_of_blockI h1 h5
  have hp : PredAt Try.prog 39 #[] (Value.int .i64) (fun y => y == 1) w := fun W y hW =>
    (one_closure y W).mono fun e w' ⟨q1, q2⟩ => ⟨q1, 0, q2.symm⟩
  have hpo : PredOver Try.prog 39 #[] (Value.int .i64) (fun y => y == 1) g 0 xs.toArray.size w := fun n os dk y hsz =>
    (one_closure y _).mono fun e w' ⟨q1, q2⟩ => ⟨q1, 0, q2.symm⟩
  have hcon := AnyE.slices_DeleteFunc Try.delF (Value.int .i64) (fun _ => rfl) (fun y => y == 1) 39 #[] eg 0 (fun w => by kernel_rfl) g 0 cap xs.toArray w hp hpo hH (by simp; omega) (by simpa using h2)
  rw [show xs.toArray.size = xs.length by simp] at hcon
  refine hcon.mono fun e w' ⟨he, q, hw⟩ => ⟨he, ?_⟩
  subst hw
  have hf : (xs.toArray.toList.filter fun y => !(y == 1)) = (xs.filter fun x => !(x == 1)) := rfl
  rw [hf]
  generalize hys : (xs.filter fun x => !(x == 1)) = ys
  have hle : ys.length ≤ xs.length := by rw [← hys]; exact List.length_filter_le _ _
  have ht := h.turn (n := q) (os := #[]) (ts := ys ++ List.replicate (xs.length - ys.length) 0) (by simp; omega)
  rw [Go.Sort.grow_empty] at ht
  refine ⟨?_, ht.2⟩
  have := ht.1.cut (n := ys.length) (by simp)
  rw [List.take_left] at this
  exact this
/-! ### the opposite of one -/
theorem hasC {w : World} {g cap : Nat} {xs : List Int} (h : RowI w g cap xs) (hs : xs.length ≤ 1000) (x : Int) : Calls Try.prog 41 #[.slice (some ⟨g, 0, none⟩) xs.length cap, .int .i64 x] w fun e w' => e = .returned (.bool (xs.contains x)) ∧ w = w' := by
  have := (Any.slices_Contains_int Try.hasI g 0 xs.length cap xs x w (Nat.le_refl _) (by omega) (fun j hj => by
    rcases h.form with ⟨e, -⟩ | ⟨g', cap', e, -, -, -, hc⟩
    · cases e
    · injection e with e1 e2 e3
      injection e1 with e1
      injection e1 with e1
      subst e1
      rw [Nat.zero_add, (hc j (by simpa using hj)).1]
      simp [List.getD, hj, iv])).mono fun e w' h => (⟨h.1, h.2.symm⟩ : _ ∧ w = w')
  rw [List.take_length] at this
  exact this
def oppW (c : List Int) (x : Int) : Bool := x == -1 || c.contains (wrap64 (-x))
theorem opp_closure {w : World} {pc g cap : Nat} {c : List Int} (h : RowI w g cap c) (hs : c.length ≤ 1000) (hb : w.cell? ⟨pc, 0, none⟩ = some (.slice (some ⟨g, 0, none⟩) c.length cap)) (y : Int) :
    Calls Try.prog 40 #[.int .i64 y, .pointer (some ⟨pc, 0, none⟩)] w fun e w' => e = .returned (.bool (oppW c y)) ∧ w = w' := by
  have HC := Lib.hid (hasC h hs (wrap64 (-y)))
  obtain ⟨r, hr⟩ : ∃ r, r = c.contains (wrap64 (-y)) := ⟨_, rfl⟩
  rw [← hr] at HC
  have HE : Hid (oppW c y = (y == -1 || r)) := Lib.hid (by unfold oppW; rw [hr])
  obtain ⟨q, hq⟩ : ∃ q, q = c.length := ⟨_, rfl⟩
  rw [← hq] at HC hb
  clear h hs hr hq
  by_cases hy : y = -1
  · subst hy
    go_enter Try.func40, Try.ntmps40
    go_wp2_with ((go_at_call 41; refine (HC.out).mono ?_; rintro e w' ⟨rfl, rfl⟩))
    go_ret
    exact ⟨by rw [HE.out]; rfl, rfl⟩
  · have d0 : (y == -1) = false := by rw [beq_eq_false_iff_ne]; exact hy
    rw [d0] at HE
    clear hy
    go_enter Try.func40, Try.ntmps40
    go_wp2_with ((go_at_call 41; refine (HC.out).mono ?_; rintro e w' ⟨rfl, rfl⟩))
    go_ret
    exact ⟨by rw [HE.out]; rfl, rfl⟩
theorem opp_any {w : World} {pc g cap : Nat} {c : List Int} (h : RowI w g cap c) (hs : c.length ≤ 1000) (hb : w.cell? ⟨pc, 0, none⟩ = some (.slice (some ⟨g, 0, none⟩) c.length cap)) :
    Calls Try.prog 42 #[.slice (some ⟨g, 0, none⟩) c.length cap, .func (.func 40) #[] #[.pointer (some ⟨pc, 0, none⟩)]] w fun e w' => e = .returned (.bool (c.any (oppW c))) ∧ Quiet w w' := by
  have eg : ∀ args w, (callFunc 40 args).run Try.prog w = .ok (.enter 40 args) w := enters_of Try.func40 (by kernel_rfl) rfl
  have hlt := World.block_lt_of_cell? w _ hb
  have hp : PredAt Try.prog 40 #[.pointer (some ⟨pc, 0, none⟩)] encI (oppW c) w := fun W x hW =>
    (opp_closure (h.chg (S := fun _ => False) (Chg.of_below hW) (fun _ _ e => e)) hs ((hW.cell (p := ⟨pc, 0, none⟩) hlt).trans hb) x).mono fun e w' ⟨h1, h2⟩ => ⟨h1, 0, h2.symm⟩
  have h := AnyE.slices_ContainsFunc Try.hasF encI (oppW c) 40 #[.pointer (some ⟨pc, 0, none⟩)] eg g 0 c.length cap c w hp (Nat.le_refl _) (by omega) (fun j hj => by
    rcases h.form with ⟨e, -⟩ | ⟨g', cap', e, -, -, -, hc⟩
    · cases e
    · injection e with e1 e2 e3
      injection e1 with e1
      injection e1 with e1
      subst e1
      rw [Nat.zero_add, (hc j (by simpa using hj)).1]
      simp [encI, List.getD, hj, iv])
  refine h.mono fun e w' ⟨h1, h2⟩ => ⟨?_, h2⟩
  rw [h1, List.take_length]
theorem oppW_any {n : Nat} (hn : n ≤ 1000000) {c : List Int} (hc : ∀ x ∈ c, okL n x) : c.any (oppW c) = c.any (oppB c) := by
  rw [Bool.eq_iff_iff, List.any_eq_true, List.any_eq_true]
  have : ∀ x ∈ c, oppW c x = oppB c x := fun x hx => by
    have := hc x hx
    unfold okL at this
    unfold oppW oppB
    rw [show wrap64 (-x) = -x by unfold wrap64; omega]
  constructor
  · rintro ⟨x, hx, e⟩; exact ⟨x, hx, by rw [← this x hx]; exact e⟩
  · rintro ⟨x, hx, e⟩; exact ⟨x, hx, by rw [this x hx]; exact e⟩
end Go.Proofs.Ytkofhilgehhopaa
