/-
  Package net: the iterator vars, walked inside a fence.
-/
import Derived.Test.YtlahecdpcpejpaaDoorNetE
import Derived.Test.YtlahecdpcpejpaaDoorKit
import Derived.RangeFuncNested
import Derived.RangeFuncBound
import Derived.RangeFuncCalls
import Derived.RangeFuncLeaves
import Derived.Shelf.Abstract
import Derived.Shelf.RegionOpen
import Derived.OwnWalkIn
import Derived.TacticsInMore
import Derived.LoopNIn
import Derived.LoopIn
import Derived.Test.YtlahecdpcpejpaaDoorNetI
namespace Go.Proofs.YtlahecdpcpejpaaDoor
open Go.ChangeShapes Go.WideShapes Go.ChangeAt Go.RowKit Go.Shelf
set_option linter.unusedVariables false
set_option linter.unusedSimpArgs false
attribute [local go_sem] Oper.semAt_some
/-- What a round keeps: all below n₀, and every block of cells but those of S. -/
structure KpC (S : Nat → Prop) (n₀ : Nat) (W W' : World) : Prop where
  low : Below n₀ W W'
  cells : ∀ k o, W.heap[k]? = some o → o.isCells = true → ¬ S k → W'.heap[k]? = some o
section
variable {S : Nat → Prop} {n₀ : Nat}
theorem KpC.refl (W : World) : KpC S n₀ W W := ⟨Below.refl _ _, fun _ _ h _ _ => h⟩
theorem KpC.trans {A B C : World} (h : KpC S n₀ A B) (k : KpC S n₀ B C) : KpC S n₀ A C := ⟨h.low.trans k.low, fun i o h1 h2 h3 => k.cells i o (h.cells i o h1 h2 h3) h2 h3⟩
theorem KpC.of_below {A B : World} (h : Below A.heap.size A B) (hn : n₀ ≤ A.heap.size) : KpC S n₀ A B := ⟨h.mono hn, fun k o h1 _ _ => by
  rw [h.block k]
  · exact h1
  · exact (Array.getElem?_eq_some_iff.1 h1).1⟩
theorem KpC.alloc {A B : World} (h : KpC S n₀ A B) (hn : n₀ ≤ A.heap.size) (o : Obj) : KpC S n₀ A (B.alloc o) :=
  h.trans (KpC.of_below ((Below.refl _ _).alloc (Nat.le_refl _) _) (Nat.le_trans hn h.low.size))
theorem KpC.blk {A B : World} {g : Nat} {t : TypeId} {cs : Array Value} (h : KpC S n₀ A B) (hb : Blk A g t cs) (hS : ¬ S g) : Blk B g t cs := h.cells g _ hb rfl hS
theorem KpC.drewN {A B : World} (h : KpC S n₀ A B) (n : Nat) : KpC S n₀ A (B.drewN n) := ⟨below_drewN h.low n, h.cells⟩
end
theorem abides_alloc {β : Type} {B : Nat} {J : β → World → Prop} (h : AbidesFrom B J) {s : β} {W : World} (hs : J s W) (o : Obj) : J s (W.alloc o) := h s W _ none hs (World.grownBy_alloc W o none) (fun r e => by cases e)
theorem pre_len {α : Type} {p l : List α} {x : α} (h : p ++ [x] <+: l) : p.length < l.length := by have := h.length_le; simp at this; omega
theorem pre_trans {α : Type} {p q l : List α} (h : p ++ q <+: l) : p <+: l := (List.prefix_append p q).trans h
theorem pre_app {α : Type} (a : List α) {p q : List α} (h : p <+: q) : a ++ p <+: a ++ q := by obtain ⟨t, rfl⟩ := h; exact ⟨t, by rw [List.append_assoc]⟩
theorem pre_map {α β : Type} (f : α → β) (l : List α) (k : Nat) : (l.take k).map f <+: l.map f := by
  refine ⟨(l.drop k).map f, ?_⟩; rw [← List.map_append, List.take_append_drop]
theorem pre_fm {α β : Type} (f : α → List β) (l : List α) (k : Nat) : (l.take k).flatMap f <+: l.flatMap f := by
  refine ⟨(l.drop k).flatMap f, ?_⟩; rw [← List.flatMap_append, List.take_append_drop]
def pB (d : NetD) (k : Nat) : List Int := d.inp ++ (d.lat.take k).map (·.1)
def pC (d : NetD) (k : Nat) : List Int := d.inp ++ d.lat.map (·.1) ++ (d.mems.take k).flatMap memDef
def pD (d : NetD) (k j : Nat) : List Int := pC d k ++ ((d.mems.getD k mem0).rd.take j).flatMap (fun r => dataM r.1 (d.mems.getD k mem0).word)
def pE (d : NetD) (k : Nat) : List Int := d.inp ++ d.lat.map (·.1) ++ d.mems.flatMap memDef ++ (d.ands.take k).map (·.1)
theorem pre_A (d : NetD) (k : Nat) : d.inp.take k <+: definedN d := (List.take_prefix _ _).trans (by unfold definedN; simp [List.append_assoc])
theorem pre_B (d : NetD) (k : Nat) : pB d k <+: definedN d := (pre_app _ (pre_map _ _ _)).trans (by unfold definedN; rw [List.append_assoc (d.inp ++ _)]; exact List.prefix_append _ _)
theorem pre_C (d : NetD) (k : Nat) : pC d k <+: definedN d := (pre_app _ (pre_fm _ _ _)).trans (by unfold definedN; exact List.prefix_append _ _)
theorem pre_E (d : NetD) (k : Nat) : pE d k <+: definedN d := pre_app _ (pre_map _ _ _)
theorem pre_D {d : NetD} {k : Nat} (hk : k < d.mems.length) (j : Nat) : pD d k j <+: definedN d := by
  refine List.IsPrefix.trans ?_ (pre_C d (k + 1))
  unfold pC
  rw [flatMap_take mem0 memDef hk, ← List.append_assoc]
  exact pre_app _ (pre_fm _ _ _)
theorem dat_pre {v : Int} {a b : Nat} (h : a ≤ b) : dat v a <+: dat v b := by
  induction b with
  | zero => rw [show a = 0 by omega]; exact List.prefix_refl _
  | succ b ih =>
    rcases Nat.lt_or_ge a (b + 1) with h1 | h1
    · exact (ih (by omega)).trans (by rw [dat_succ]; exact List.prefix_append _ _)
    · rw [show a = b + 1 by omega]; exact List.prefix_refl _
theorem pre_F {d : NetD} {k j t : Nat} (hk : k < d.mems.length) (hj : j < (d.mems.getD k mem0).rd.length) (ht : t ≤ (d.mems.getD k mem0).word.toNat) : pD d k j ++ dat ((d.mems.getD k mem0).rd.getD j rd0).1 t <+: definedN d := by
  refine List.IsPrefix.trans ?_ (pre_D hk (j + 1))
  unfold pD
  rw [flatMap_take rd0 (fun r : RdD => dataM r.1 (d.mems.getD k mem0).word) hj, ← List.append_assoc]
  exact pre_app _ (dat_pre ht)
end Go.Proofs.YtlahecdpcpejpaaDoor
/-
  Package net: the iterator vars, walked inside a fence: what it gives.
-/
namespace Go.Proofs.YtlahecdpcpejpaaDoor
open Go.ChangeShapes Go.WideShapes Go.ChangeAt Go.RowKit Go.Shelf
set_option linter.unusedVariables false
set_option linter.unusedSimpArgs false
attribute [local go_sem] Oper.semAt_some
set_option maxHeartbeats 16000000 in
set_option maxRecDepth 100000 in
theorem vars1_in (n : Nat) (hn : 1 ≤ n) {w0 W : World} {d : NetD} {vi vl vo vb vc vm va : Value} (h : NetP w0 d vi vl vo vb vc vm va) (hl : liH d = true) (hm : LiMs d) (hw : Below w0.heap.size w0 W) {bx : Nat} (hbx : NBox W bx d vi vl vo vb vc vm va)
    {S : Nat → Prop} (hS : ∀ k, S k → k < W.heap.size) (hSx : ¬ S bx) (l : Nat) (J Jx : List Int → World → Prop) (hJ : AbidesFrom W.heap.size J)
    (hY : ∀ pre x W1, J pre W1 → pre.length < (definedN d).length → YieldAt Fence.wide (n - 1) Tryd.prog l #[.int .i64 x] W1 fun e W' =>
      (e = .returned (.bool true) ∧ J (pre ++ [x]) W' ∧ KpC S w0.heap.size W1 W') ∨ (e = .returned (.bool false) ∧ Jx (pre ++ [x]) W'))
    (h0 : J [] W) :
    CallsIn Fence.wide n Tryd.prog 97 #[.func (.yield l) #[] #[], .pointer (some ⟨bx, 0, none⟩)] W fun e W' => (∃ v, e = .returned v) ∧
      ((∃ ys, ys = definedN d ∧ J ys W') ∨ (∃ pre, pre <+: definedN d ∧ Jx pre W')) := by
  obtain ⟨ai, ci, ni, al, cl, nl, ao, co, no, ab, cb, nb, ac, cc, nc, am, cm, nm, aa, ca, na, rfl, rfl, rfl, rfl, rfl, rfl, rfl, HN, HC⟩ := h.open_ hl
  obtain ⟨⟨i1, i2, i3⟩, ⟨l1, l2, l3⟩, -, -, -, ⟨m1, m2, m3⟩, ⟨a1, a2, a3⟩⟩ := HC
  have c1 := hbx.c1
  have HP := Lib.hid h
  have HL := Lib.hid hl
  have HM := Lib.hid hm
  have HW := Lib.hid hw
  have HBX := Lib.hid hbx
  have HS := Lib.hid hS
  have HSX := Lib.hid hSx
  have HJ := Lib.hid hJ
  have HY := Lib.hid hY
  have H0 := Lib.hid h0
  have HCC : Hid (∀ W', KpC S w0.heap.size W W' → NBox W' bx d (.slice ai ni ci) (.slice al nl cl) (.slice ao no co) (.slice ab nb cb) (.slice ac nc cc) (.slice am nm cm) (.slice aa na ca)) := Lib.hid fun W' hk => hk.blk hbx hSx
  have HNW : Hid (w0.heap.size ≤ W.heap.size) := Lib.hid hw.size
  clear h hl hm hw hbx hS hSx hJ hY h0
  refine callsIn_of_wp Tryd.func97 rfl trivial ?_ rfl
  simp only [Tryd.ntmps97, List.size_toArray, List.length_cons, List.length_nil, Nat.reduceAdd, Nat.reduceSub, Array.replicate_succ, Array.replicate_zero, List.push_toArray, List.append_toArray, List.nil_append, List.cons_append]
  gi_wp2
  gi_loopw [4, 17] (fun _ i wr => ∃ k : Nat, k ≤ ni ∧ i = .int .i64 k ∧ J (d.inp.take k) wr ∧ KpC S w0.heap.size W wr) (fun _ i _ => ni - (intOf i).toNat)
  case atStart => exact ⟨0, Nat.zero_le _, rfl, H0.out, KpC.refl _⟩
  case round =>
    obtain ⟨k, hk, rfl, hJk, hK⟩ := hrel
    have HJK := Lib.hid hJk
    have HK := Lib.hid hK
    clear hJk hK
    by_cases hlt : (k : Int) < (ni : Int)
    · have hkn : k < d.inp.length := by have := HN.out.inp; omega
      have hii : d.inp = [] ∨ ∃ b off, ai = some ⟨b, off, none⟩ ∧ ∀ j, j < d.inp.length → w0.cell? ⟨b, off + j, none⟩ = some (.int .i64 (d.inp.getD j 0)) := by
        obtain ⟨a9, c9, e9, -, -, -, h9⟩ := HP.out.inp
        injection e9 with e91 e92 e93
        rw [e91]; exact h9
      obtain ⟨b, off, he, hcs⟩ := ints_cells hii hkn
      subst he
      have q := hcs wr (HW.out.trans HK.out.low)
      have hsn := take_snocI hkn
      obtain ⟨x, hx⟩ : ∃ x, x = d.inp.getD k 0 := ⟨_, rfl⟩
      rw [← hx] at q hsn
      have hpre := pre_A d (k + 1)
      rw [hsn] at hpre
      obtain ⟨fn, tmps, assign, body, hy, hR⟩ := HY.out _ x wr HJK.out (pre_len hpre)
      have HR := Lib.hid hR
      have HSN := Lib.hid hsn
      have HPRE := Lib.hid hpre
      clear hR hsn hpre hcs hkn hx hii
      gi_wp2
      refine HR.out.mono ?_
      rintro e W3 (⟨rfl, hJ3, hk3⟩ | ⟨rfl, hJx3⟩)
      · have HJ3 := Lib.hid hJ3
        have HK3 := Lib.hid hk3
        clear hJ3 hk3
        gi_wp2
        go_roundw
        case rel => exact ⟨k + 1, by omega, by go_num, by rw [HSN.out]; exact HJ3.out, HK.out.trans HK3.out⟩
        case measure => simp [intOf]; omega
      · have HJX := Lib.hid hJx3
        clear hJx3
        gi_wp2
        refine bodyPost_ret (results_none rfl _ _ _) rfl ?_
        exact ⟨⟨_, rfl⟩, .inr ⟨_, HPRE.out, HJX.out⟩⟩
    · obtain rfl : k = ni := by omega
      have hall : d.inp.take k = pB d 0 := by unfold pB; rw [List.take_of_length_le (by have := HN.out.inp; omega)]; simp
      rw [hall] at HJK
      obtain ⟨w1, rfl⟩ : ∃ w1 : World, w1 = wr := ⟨_, rfl⟩
      have c2 := (HCC.out _ HK.out).c2
      clear hall
      gi_wp2
      clear c2
      gi_loopw [6, 29] (fun _ i wr => ∃ k : Nat, k ≤ nl ∧ i = .int .i64 k ∧ J (pB d k) wr ∧ KpC S w0.heap.size W wr) (fun _ i _ => nl - (intOf i).toNat)
      case atStart => exact ⟨0, Nat.zero_le _, rfl, HJK.out, HK.out⟩
      case round =>
        obtain ⟨k2, hk2, rfl, hJk2, hK2⟩ := hrel
        have HJK2 := Lib.hid hJk2
        have HK2 := Lib.hid hK2
        clear hJk2 hK2
        by_cases hlt2 : (k2 : Int) < (nl : Int)
        · have hkn : k2 < d.lat.length := by have := HN.out.lat; omega
          obtain ⟨b, off, cap', he, hone⟩ := (HP.out.below (HW.out.trans HK2.out.low)).lat.at_ hkn
          injection he with e1 e2 e3
          subst e1
          obtain ⟨q0, q1, q2⟩ := hone
          have hsn : pB d (k2 + 1) = pB d k2 ++ [(d.lat.getD k2 tri0).1] := by unfold pB; rw [map_take_D (f := fun x : Tri => x.1) tri0 hkn, List.append_assoc]
          obtain ⟨y, hyy⟩ : ∃ y, y = d.lat.getD k2 tri0 := ⟨_, rfl⟩
          rw [← hyy] at q0 q1 q2 hsn
          obtain ⟨y1, y2, y3⟩ := y
          have hpre := pre_B d (k2 + 1)
          rw [hsn] at hpre
          obtain ⟨fn, tmps, assign, body, hy, hR⟩ := HY.out _ y1 _ (abides_alloc HJ.out HJK2.out (.cells #[.int .i64 y1, .int .i64 y2, .int .i64 y3] 70)) (pre_len hpre)
          have HR := Lib.hid hR
          have HSN := Lib.hid hsn
          have HPRE := Lib.hid hpre
          have HKA : Hid (KpC S w0.heap.size W (wr.alloc (.cells #[.int .i64 y1, .int .i64 y2, .int .i64 y3] 70))) := Lib.hid (HK2.out.alloc HNW.out _)
          clear hR hsn hpre hkn hyy e2 e3
          gi_wp2
          refine HR.out.mono ?_
          rintro e W3 (⟨rfl, hJ3, hk3⟩ | ⟨rfl, hJx3⟩)
          · have HJ3 := Lib.hid hJ3
            have HK3 := Lib.hid hk3
            clear hJ3 hk3
            gi_wp2
            go_roundw
            case rel => exact ⟨k2 + 1, by omega, by go_num, by rw [HSN.out]; exact HJ3.out, HKA.out.trans HK3.out⟩
            case measure => simp [intOf]; omega
          · have HJX := Lib.hid hJx3
            clear hJx3
            gi_wp2
            refine bodyPost_ret (results_none rfl _ _ _) rfl ?_
            exact ⟨⟨_, rfl⟩, .inr ⟨_, HPRE.out, HJX.out⟩⟩
        · obtain rfl : k2 = nl := by omega
          have hall : pB d k2 = pC d 0 := by unfold pB pC; rw [List.take_of_length_le (by have := HN.out.lat; omega)]; simp
          rw [hall] at HJK2
          obtain ⟨w2, rfl⟩ : ∃ w1 : World, w1 = wr := ⟨_, rfl⟩
          have c6 := (HCC.out _ HK2.out).c6
          clear hall
          gi_wp2
          clear c6
          gi_loopw [8, 10, 11, 42, 49, 55] (fun _ _ _ i _ _ wr => ∃ k : Nat, k ≤ nm ∧ i = .int .i64 k ∧ J (pC d k) wr ∧ KpC S w0.heap.size W wr) (fun _ _ _ i _ _ _ => nm - (intOf i).toNat)
          case atStart => exact ⟨0, Nat.zero_le _, rfl, HJK2.out, HK2.out⟩
          case round =>
            obtain ⟨k3, hk3, rfl, hJk3, hK3⟩ := hrel
            have HJK3 := Lib.hid hJk3
            have HK3 := Lib.hid hK3
            clear hJk3 hK3
            by_cases hlt3 : (k3 : Int) < (nm : Int)
            · have hkn : k3 < d.mems.length := by have := HN.out.mems; omega
              obtain ⟨b, off, cap', he, hmem⟩ := HP.out.mems.at_ hkn
              injection he with e1 e2 e3
              subst e1
              have hlm := liM_parts (HM.out k3 hkn)
              have hfm : pC d (k3 + 1) = pC d k3 ++ memDef (d.mems.getD k3 mem0) := by unfold pC; rw [flatMap_take mem0 memDef hkn, ← List.append_assoc]
              have HFP : Hid (∀ j t, j < (d.mems.getD k3 mem0).rd.length → t ≤ (d.mems.getD k3 mem0).word.toNat → pD d k3 j ++ dat ((d.mems.getD k3 mem0).rd.getD j rd0).1 t <+: definedN d) := Lib.hid fun j t => pre_F hkn
              have HPD : Hid (∀ j, j < (d.mems.getD k3 mem0).rd.length → pD d k3 (j + 1) = pD d k3 j ++ dat ((d.mems.getD k3 mem0).rd.getD j rd0).1 (d.mems.getD k3 mem0).word.toNat) := Lib.hid fun j hj => by
                unfold pD; rw [flatMap_take rd0 (fun r : RdD => dataM r.1 (d.mems.getD k3 mem0).word) hj, ← List.append_assoc]; rfl
              have HPE : Hid (pD d k3 (d.mems.getD k3 mem0).rd.length = pC d (k3 + 1)) := Lib.hid (by rw [hfm]; unfold pD memDef; rw [List.take_length])
              have HP0 : Hid (pD d k3 0 = pC d k3) := Lib.hid (by unfold pD; simp)
              obtain ⟨mm, hmm⟩ : ∃ mm, mm = d.mems.getD k3 mem0 := ⟨_, rfl⟩
              rw [← hmm] at hmem hlm HFP HPD HPE
              obtain ⟨u1, u2, y0, y1, y2, y3, y4, hmv⟩ := hmem.val
              obtain ⟨ra, rc, nr, wa, wc, nw, hag, hnr, hnw, r1, r2, z1, z2, HSR, HSW⟩ := hmv.open_
              injection hag with hag
              simp only [Array.mk.injEq, List.cons.injEq, true_and, and_true] at hag
              obtain ⟨rfl, rfl⟩ := hag
              have hbw := HW.out.trans HK3.out.low
              replace y0 := cell_below y0 hbw
              replace y1 := cell_below y1 hbw
              replace y2 := cell_below y2 hbw
              replace y3 := cell_below y3 hbw
              replace y4 := cell_below y4 hbw
              have hr6 : nr ≤ 6 := by have := of_decide_eq_true hlm.1; omega
              have hw100 : mm.word ≤ 100 := by have := of_decide_eq_true hlm.1; omega
              have HLM := Lib.hid hlm
              have HNR := Lib.hid hnr
              obtain ⟨wp, rfl⟩ : ∃ wp : World, wp = wr := ⟨_, rfl⟩
              obtain ⟨bm, hbm⟩ : ∃ bm, bm = wp.heap.size := ⟨_, rfl⟩
              obtain ⟨wm, hwm⟩ : ∃ wm, wm = wp.alloc (.cells #[.int .i64 mm.addr, .int .i64 mm.word, .bool mm.any, .slice ra nr rc, .slice wa nw wc] 53) := ⟨_, rfl⟩
              have HBM : Hid (Blk wm bm 53 #[.int .i64 mm.addr, .int .i64 mm.word, .bool mm.any, .slice ra nr rc, .slice wa nw wc]) := Lib.hid (by rw [hwm, hbm]; exact Blk.new _ _ _)
              have HKM : Hid (KpC S w0.heap.size W wm) := Lib.hid (by rw [hwm]; exact HK3.out.alloc HNW.out _)
              have HSM : Hid (¬ S bm) := Lib.hid (fun h => by have := HS.out _ h; have := HK3.out.low.size; have h2 := HK3.out; have h3 : W.heap.size ≤ wp.heap.size := HK3.out.low.size; omega)
              have HJM : Hid (J (pD d k3 0) wm) := Lib.hid (by rw [hwm, HP0.out]; exact abides_alloc HJ.out HJK3.out _)
              have HWM := Lib.hid hwm
              have HBME := Lib.hid hbm
              clear hfm hlm hmm hnr hnw hmv hmem e2 e3 hkn hbm hwm hbw
              gi_wp2
              rw [← HWM.out, ← HBME.out]
              clear y0 y1 y2 y3 y4
              gi_loopw [10, 11, 49, 55] (fun _ _ i _ wr => ∃ j : Nat, j ≤ nr ∧ i = .int .i64 j ∧ J (pD d k3 j) wr ∧ KpC S w0.heap.size wm wr) (fun _ _ i _ _ => nr - (intOf i).toNat)
              case atStart => exact ⟨0, Nat.zero_le _, rfl, HJM.out, KpC.refl _⟩
              case round =>
                obtain ⟨j, hj, rfl, hJj, hKj⟩ := hrel
                have HJJ := Lib.hid hJj
                have HKJ := Lib.hid hKj
                have HKW := Lib.hid (HKM.out.trans hKj)
                clear hJj hKj
                by_cases hltj : (j : Int) < (nr : Int)
                · have hjn : j < mm.rd.length := by have := HNR.out; omega
                  obtain ⟨b2, off2, cap2, he, hone⟩ := HSR.out.at_ hjn
                  injection he with e1 e2 e3
                  subst e1
                  obtain ⟨q0, u4, q1, hin⟩ := hone
                  have hbw := HW.out.trans HKW.out.low
                  replace q0 := cell_below q0 hbw
                  replace q1 := cell_below q1 hbw
                  have hlr := of_decide_eq_true (HLM.out.2.1 j hjn)
                  have HF := Lib.hid (fun t => HFP.out j t hjn)
                  have HD1 := Lib.hid (HPD.out j hjn)
                  obtain ⟨A5, cc5, rfl, -⟩ := hin
                  obtain ⟨v, hv⟩ : ∃ v, v = (mm.rd.getD j rd0).1 := ⟨_, rfl⟩
                  rw [← hv] at q0 hlr HF HD1
                  obtain ⟨-, v1, v2⟩ := hlr
                  have cb := (HKJ.out.blk HBM.out HSM.out).cell 1
                  generalize (mm.rd.getD j rd0).2.length = ny at q1
                  obtain ⟨wd, hwd⟩ : ∃ wd, wd = mm.word := ⟨_, rfl⟩
                  have cb1 : (wr.alloc (.cells #[.int .i64 v, .slice A5 ny cc5] 65)).cell? ⟨bm, 1, none⟩ = some (.int .i64 wd) := by rw [hwd]; exact cell_below cb (below_new1 wr _)
                  rw [← hwd] at hw100 HD1
                  have HWD := Lib.hid hwd
                  obtain ⟨wq, rfl⟩ : ∃ wq : World, wq = wr := ⟨_, rfl⟩
                  obtain ⟨br, hbr⟩ : ∃ br, br = wq.heap.size := ⟨_, rfl⟩
                  obtain ⟨wn, hwn⟩ : ∃ wn, wn = wq.alloc (.cells #[.int .i64 v, .slice A5 ny cc5] 65) := ⟨_, rfl⟩
                  have HBR : Hid (Blk wn br 65 #[.int .i64 v, .slice A5 ny cc5]) := Lib.hid (by rw [hwn, hbr]; exact Blk.new _ _ _)
                  have HKN : Hid (KpC S w0.heap.size wm wn) := Lib.hid (by rw [hwn]; exact HKJ.out.alloc (Nat.le_trans HNW.out HKM.out.low.size) _)
                  have HSR2 : Hid (¬ S br) := Lib.hid (fun h => by have := HS.out _ h; have h3 : W.heap.size ≤ wq.heap.size := HKW.out.low.size; omega)
                  have HJN : Hid (J (pD d k3 j ++ dat v 0) wn) := Lib.hid (by rw [hwn]; simpa [dat] using abides_alloc HJ.out HJJ.out _)
                  have HWN := Lib.hid hwn
                  have HBRE := Lib.hid hbr
                  clear hv hjn e2 e3 hbw hwd cb hwn hbr
                  gi_wp2
                  rw [← HWN.out, ← HBRE.out]
                  clear q0 q1 cb1
                  gi_loopw [11, 55] (fun _ i wr => ∃ t : Nat, t ≤ wd.toNat ∧ i = .int .i64 t ∧ J (pD d k3 j ++ dat v t) wr ∧ KpC S w0.heap.size wn wr) (fun _ i _ => wd.toNat - (intOf i).toNat)
                  case atStart => exact ⟨0, Nat.zero_le _, rfl, HJN.out, KpC.refl _⟩
                  case round =>
                    obtain ⟨t, ht, rfl, hJt, hKt⟩ := hrel
                    have HJT := Lib.hid hJt
                    have HKT := Lib.hid hKt
                    clear hJt hKt
                    by_cases hltt : (t : Int) < wd
                    · have cv : wr.cell? ⟨br, 0, none⟩ = some (.int .i64 v) := (HKT.out.blk HBR.out HSR2.out).cell 0
                      have ht9 : (t : Int) ≤ 100 := by omega
                      have hpre := HF.out (t + 1) (by rw [← HWD.out]; omega)
                      rw [dat_succ, ← List.append_assoc] at hpre
                      obtain ⟨fn, tmps, assign, body, hy, hR⟩ := HY.out _ (v + (t : Int)) wr HJT.out (pre_len hpre)
                      have HR := Lib.hid hR
                      have HPRE := Lib.hid hpre
                      clear hR hpre
                      gi_wp2
                      refine HR.out.mono ?_
                      rintro e W3 (⟨rfl, hJ3, hk3⟩ | ⟨rfl, hJx3⟩)
                      · have HJ3 := Lib.hid hJ3
                        have HK5 := Lib.hid hk3
                        clear hJ3 hk3
                        gi_wp2
                        go_roundw
                        case rel => exact ⟨t + 1, by omega, by go_num, by rw [dat_succ, ← List.append_assoc]; exact HJ3.out, HKT.out.trans HK5.out⟩
                        case measure => simp [intOf]; omega
                      · have HJX := Lib.hid hJx3
                        clear hJx3
                        gi_wp2
                        refine bodyPost_ret (results_none rfl _ _ _) rfl ?_
                        exact ⟨⟨_, rfl⟩, .inr ⟨_, HPRE.out, HJX.out⟩⟩
                    · obtain rfl : t = wd.toNat := by omega
                      gi_wp2
                      go_roundw
                      case rel => exact ⟨j + 1, by omega, by go_num, by rw [HD1.out]; exact HJT.out, HKN.out.trans HKT.out⟩
                      case measure => simp [intOf]; omega
                · obtain rfl : j = nr := by omega
                  have HJE : Hid (J (pC d (k3 + 1)) wr) := Lib.hid (by rw [← HPE.out, ← HNR.out]; exact HJJ.out)
                  gi_wp2
                  go_roundw
                  case rel => exact ⟨k3 + 1, by omega, by go_num, HJE.out, HKW.out⟩
                  case measure => simp [intOf]; omega
            · obtain rfl : k3 = nm := by omega
              have hall : pC d k3 = pE d 0 := by unfold pC pE; rw [List.take_of_length_le (by have := HN.out.mems; omega)]; simp
              rw [hall] at HJK3
              obtain ⟨w3, rfl⟩ : ∃ w1 : World, w1 = wr := ⟨_, rfl⟩
              have c7 := (HCC.out _ HK3.out).c7
              clear hall
              gi_wp2
              clear c7
              gi_loopw [13, 71] (fun _ i wr => ∃ k : Nat, k ≤ na ∧ i = .int .i64 k ∧ J (pE d k) wr ∧ KpC S w0.heap.size W wr) (fun _ i _ => na - (intOf i).toNat)
              case atStart => exact ⟨0, Nat.zero_le _, rfl, HJK3.out, HK3.out⟩
              case round =>
                obtain ⟨k4, hk4, rfl, hJk4, hK4⟩ := hrel
                have HJK4 := Lib.hid hJk4
                have HK4 := Lib.hid hK4
                clear hJk4 hK4
                by_cases hlt4 : (k4 : Int) < (na : Int)
                · have hkn : k4 < d.ands.length := by have := HN.out.ands; omega
                  obtain ⟨b, off, cap', he, hone⟩ := (HP.out.below (HW.out.trans HK4.out.low)).ands.at_ hkn
                  injection he with e1 e2 e3
                  subst e1
                  obtain ⟨q0, q1, q2⟩ := hone
                  have hsn : pE d (k4 + 1) = pE d k4 ++ [(d.ands.getD k4 tri0).1] := by unfold pE; rw [map_take_D (f := fun x : Tri => x.1) tri0 hkn, ← List.append_assoc]
                  obtain ⟨y, hyy⟩ : ∃ y, y = d.ands.getD k4 tri0 := ⟨_, rfl⟩
                  rw [← hyy] at q0 q1 q2 hsn
                  obtain ⟨y1, y2, y3⟩ := y
                  have hpre := pre_E d (k4 + 1)
                  rw [hsn] at hpre
                  obtain ⟨fn, tmps, assign, body, hy, hR⟩ := HY.out _ y1 _ (abides_alloc HJ.out HJK4.out (.cells #[.int .i64 y1, .int .i64 y2, .int .i64 y3] 93)) (pre_len hpre)
                  have HR := Lib.hid hR
                  have HSN := Lib.hid hsn
                  have HPRE := Lib.hid hpre
                  have HKA : Hid (KpC S w0.heap.size W (wr.alloc (.cells #[.int .i64 y1, .int .i64 y2, .int .i64 y3] 93))) := Lib.hid (HK4.out.alloc HNW.out _)
                  clear hR hsn hpre hkn hyy e2 e3
                  gi_wp2
                  refine HR.out.mono ?_
                  rintro e W3 (⟨rfl, hJ3, hk3⟩ | ⟨rfl, hJx3⟩)
                  · have HJ3 := Lib.hid hJ3
                    have HK5 := Lib.hid hk3
                    clear hJ3 hk3
                    gi_wp2
                    go_roundw
                    case rel => exact ⟨k4 + 1, by omega, by go_num, by rw [HSN.out]; exact HJ3.out, HKA.out.trans HK5.out⟩
                    case measure => simp [intOf]; omega
                  · have HJX := Lib.hid hJx3
                    clear hJx3
                    gi_wp2
                    refine bodyPost_ret (results_none rfl _ _ _) rfl ?_
                    exact ⟨⟨_, rfl⟩, .inr ⟨_, HPRE.out, HJX.out⟩⟩
                · obtain rfl : k4 = na := by omega
                  have hall : pE d k4 = definedN d := by unfold pE definedN; rw [List.take_of_length_le (by have := HN.out.ands; omega)]
                  rw [hall] at HJK4
                  clear hall
                  gi_wp2
                  go_end0
                  exact ⟨⟨_, rfl⟩, .inl HJK4.out⟩
end Go.Proofs.YtlahecdpcpejpaaDoor
/-
  Package net: defines, walked.
-/
namespace Go.Proofs.YtlahecdpcpejpaaDoor
open Go.ChangeShapes Go.WideShapes Go.ChangeAt Go.RowKit Go.Shelf
set_option linter.unusedVariables false
set_option linter.unusedSimpArgs false
attribute [local go_sem] Oper.semAt_some
theorem definesN_app {V : Int} : ∀ {l r sn : List Int}, Defs V (l.reverse ++ sn) → definesN V (l ++ r) sn = definesN V r (l.reverse ++ sn)
  | [], r, sn, _ => rfl
  | x :: l, r, sn, h => by
    rw [List.reverse_cons, List.append_assoc] at h
    have hx : x ∈ l.reverse ++ ([x] ++ sn) := by simp
    have h1 := h.rng x hx
    have h2 : x ∉ sn := by
      have h3 := (List.nodup_append.1 h.nd).2.1
      simp at h3
      exact h3.1
    rw [List.cons_append, definesN_step (by omega) h2, definesN_app (by simpa using h), List.reverse_cons, List.append_assoc]; rfl
theorem blk_putObj {W : World} {g : Nat} {t : TypeId} {cs : Array Value} (h : Blk W g t cs) {l : Nat} {o : Obj} (o' : Obj) (hl : W.heap[l]? = some o) (ho : o.isCells = false) : Blk (W.putObj l o') g t cs := by
  have hn : g ≠ l := by
    rintro rfl
    have h' : W.heap[g]? = some (.cells cs t (0, 0)) := h
    rw [h'] at hl
    cases hl
    cases ho
  exact (World.putObj_heap_other hn).trans h
theorem belowPut {B : Nat} {W : World} {l : Nat} {o o' : Obj} (hg : B ≤ l) (hl : W.heap[l]? = some o) : Below B W (W.putObj l o') :=
  (Below.refl B W).grown (grownBy_putObj' W l o') (by have := (Array.getElem?_eq_some_iff.1 hl).1; omega) (fun k e => by cases e; exact hg)
theorem blk_own {W W' : World} {row : Option Nat} {g : Nat} {t : TypeId} {cs : Array Value} (h : Blk W g t cs) (hg : W.grownBy W' row) (hr : ∀ r, row = some r → ∃ o : Obj, W.heap[r]? = some o ∧ o.isCells = false) : Blk W' g t cs := by
  refine (hg.block g h.lt (fun e => ?_)).trans h
  obtain ⟨o, ho, hc⟩ := hr g e.symm
  have h' : W.heap[g]? = some (.cells cs t (0, 0)) := h
  rw [h'] at ho
  cases ho
  cases hc
theorem below_own {B : Nat} {w W W' : World} {row : Option Nat} (h : Below B w W) (hg : W.grownBy W' row) (hB : B ≤ W.heap.size) (hr : ∀ r, row = some r → B ≤ r) : Below B w W' := h.trans ((Below.refl B W).grown hg hB hr)
theorem vars_in (n : Nat) {w : World} {d : NetD} {ai al ao ab ac am aa : Option Addr} {ci ni cl nl co no cb nb cc nc cm nm ca na : Nat} (v0 : Int) :
    CallsIn Fence.wide n Tryd.prog 89 #[.agg #[.int .i64 v0, .slice ai ni ci, .slice al nl cl, .slice ao no co, .slice ab nb cb, .slice ac nc cc, .slice am nm cm, .slice aa na ca]] w fun e w' =>
      e = .returned (.func (.func 97) #[] #[.pointer (some ⟨w.heap.size, 0, none⟩)]) ∧ w' = w.alloc (.cells #[.int .i64 v0, .slice ai ni ci, .slice al nl cl, .slice ao no co, .slice ab nb cb, .slice ac nc cc, .slice am nm cm, .slice aa na ca] 28) := by
  refine callsIn_wide.2 ?_
  go_enter Tryd.func89, Tryd.ntmps89
  go_wp2
  go_ret
  exact ⟨rfl, rfl⟩
/-- Between two rounds of defines. -/
structure DefI (w : World) (V bx br g bs bl : Nat) (cs : Array Value) (p : List Int) (W : World) : Prop where
  defs : Defs V p.reverse
  net : Blk W bx 28 cs
  res : Blk W br 33 #[.int .i64 0]
  seen : VBlk W g 4 (V + 1) (seenV p.reverse)
  row : Blk W bs 99 #[.slice (some ⟨g, 0, none⟩) (V + 1) (V + 1)]
  left : Blk W bl 3 #[.int .i64 ((V : Int) - p.length)]
  low : Below w.heap.size w W
structure DefX (w : World) (V br : Nat) (c : Code) (p : List Int) (W : World) : Prop where
  jump : c = .ret
  why : ∃ q x code, p = q ++ [x] ∧ Defs V q.reverse ∧ ((code = 5 ∧ (x < 1 ∨ (V : Int) < x)) ∨ (code = 6 ∧ ¬ (x < 1 ∨ (V : Int) < x) ∧ x ∈ q.reverse)) ∧ Blk W br 33 #[.int .i64 code]
  low : Below w.heap.size w W
theorem DefX.code {w W : World} {V br : Nat} {c : Code} {p L : List Int} (h : DefX w V br c p W) (hp : p <+: L) : Blk W br 33 #[.int .i64 (definesN V L [])] := by
  obtain ⟨q, x, code, rfl, hq, hc, hb⟩ := h.why
  obtain ⟨t, rfl⟩ := hp
  rw [List.append_assoc, definesN_app (by simpa using hq), List.append_nil, List.singleton_append]
  rcases hc with ⟨rfl, h1⟩ | ⟨rfl, h1, h2⟩
  · rw [definesN_bad h1]; exact hb
  · rw [definesN_twice h1 h2]; exact hb
set_option maxHeartbeats 8000000 in
set_option maxRecDepth 100000 in
theorem net_defines {w : World} {d : NetD} {vi vl vo vb vc vm va : Value} (h : NetP w d vi vl vo vb vc vm va) (hl : liH d = true) (hm : LiMs d) {V : Nat} (hV : d.vars = V) (hV2 : V ≤ 2000) :
    Calls Tryd.prog 73 #[netV d vi vl vo vb vc vm va] w (RetF w (definesN d.vars (definedN d) [])) := by
  obtain ⟨ans, hans⟩ : ∃ f, f = definesN d.vars (definedN d) [] := ⟨_, rfl⟩
  rw [← hans]
  rw [hV] at hans
  have HA := Lib.hid hans
  have HP := Lib.hid h
  have HL := Lib.hid hl
  have HM := Lib.hid hm
  have HVV := Lib.hid hV
  obtain ⟨ai, ci, ni, al, cl, nl, ao, co, no, ab, cb, nb, ac, cc, nc, am, cm, nm, aa, ca, na, rfl, rfl, rfl, rfl, rfl, rfl, rfl, -, -⟩ := h.open_ hl
  unfold netV
  rw [hV]
  have hmk := fun W => run_makeN (P := Tryd.prog) 99 4 (.bool false) 1 1 Tryd.underlying99 infoB .i64 .i64 (V + 1) (V + 1) (Nat.le_refl _) (by omega) (by omega) W
  rw [show ((V + 1 : Nat) : Int) = (V : Int) + 1 by omega] at hmk
  clear h hl hm hV hans
  refine (callsIn_wide (n := 9)).1 ?_
  refine callsIn_of_wp_marks Tryd.func73 rfl trivial ?_ rfl
  simp only [Tryd.ntmps73, List.size_toArray, List.length_cons, List.length_nil, Nat.reduceAdd, Nat.reduceSub, Array.replicate_succ, Array.replicate_zero, List.push_toArray, List.append_toArray, List.nil_append, List.cons_append]
  gi_wp2_with (refine ⟨trivial, ?_⟩; gi_at_call 89; refine (vars_in _ (d := d) _).mono ?_; rintro e w' ⟨rfl, rfl⟩)
  obtain ⟨cs, hcs⟩ : ∃ cs : Array Value, cs = #[.int .i64 (V : Int), .slice ai ni ci, .slice al nl cl, .slice ao no co, .slice ab nb cb, .slice ac nc cc, .slice am nm cm, .slice aa na ca] := ⟨_, rfl⟩
  rw [← hcs]
  obtain ⟨W8, hW8⟩ : ∃ W8 : World, W8 = (((((w.alloc (.cells cs 28)).alloc (.cells #[.int .i64 0] 33)).alloc (.cells (madeCells #[.bool false] (V + 1)) 4)).alloc (.cells #[.slice (some ⟨w.heap.size + 1 + 1, 0, none⟩) (V + 1) (V + 1)] 99)).alloc (.cells #[.int .i64 (V : Int)] 3)).alloc (.cells cs 28) := ⟨_, rfl⟩
  obtain ⟨bx, hbx⟩ : ∃ b, b = w.heap.size := ⟨_, rfl⟩
  obtain ⟨br, hbr⟩ : ∃ b, b = w.heap.size + 1 := ⟨_, rfl⟩
  obtain ⟨g, hg⟩ : ∃ b, b = w.heap.size + 1 + 1 := ⟨_, rfl⟩
  obtain ⟨bs, hbs⟩ : ∃ b, b = w.heap.size + 1 + 1 + 1 := ⟨_, rfl⟩
  obtain ⟨bl, hbl⟩ : ∃ b, b = w.heap.size + 1 + 1 + 1 + 1 := ⟨_, rfl⟩
  obtain ⟨bv, hbv⟩ : ∃ b, b = w.heap.size + 1 + 1 + 1 + 1 + 1 := ⟨_, rfl⟩
  have hI0 : DefI w V bx br g bs bl cs [] W8 := by
    refine ⟨Defs.nil _, ?_, ?_, ?_, ?_, ?_, ?_⟩
    · rw [hW8, hbx]; exact (((((Blk.new w 28 cs).alloc _).alloc _).alloc _).alloc _).alloc _
    · have := ((((Blk.new (w.alloc (.cells cs 28)) 33 #[.int .i64 0]).alloc (.cells (madeCells #[.bool false] (V + 1)) 4)).alloc (.cells #[.slice (some ⟨w.heap.size + 1 + 1, 0, none⟩) (V + 1) (V + 1)] 99)).alloc (.cells #[.int .i64 (V : Int)] 3)).alloc (.cells cs 28)
      rw [hW8, hbr]; simpa using this
    · have h1 := VBlk.made1 (f := seenV []) ((w.alloc (.cells cs 28)).alloc (.cells #[.int .i64 0] 33)) 4 (.bool false) (V + 1) (fun i _ => by unfold seenV; rw [decide_eq_false (fun h => by cases h)])
      have h2 : Blk _ _ _ _ := (((Blk.alloc h1 (.cells #[.slice (some ⟨w.heap.size + 1 + 1, 0, none⟩) (V + 1) (V + 1)] 99)).alloc (.cells #[.int .i64 (V : Int)] 3)).alloc (.cells cs 28))
      rw [hW8, hg]; unfold VBlk; simpa using h2
    · have := ((Blk.new (((w.alloc (.cells cs 28)).alloc (.cells #[.int .i64 0] 33)).alloc (.cells (madeCells #[.bool false] (V + 1)) 4)) 99 #[.slice (some ⟨w.heap.size + 1 + 1, 0, none⟩) (V + 1) (V + 1)]).alloc (.cells #[.int .i64 (V : Int)] 3)).alloc (.cells cs 28)
      rw [hW8, hbs, hg]; simpa using this
    · have := (Blk.new ((((w.alloc (.cells cs 28)).alloc (.cells #[.int .i64 0] 33)).alloc (.cells (madeCells #[.bool false] (V + 1)) 4)).alloc (.cells #[.slice (some ⟨w.heap.size + 1 + 1, 0, none⟩) (V + 1) (V + 1)] 99)) 3 #[.int .i64 (V : Int)]).alloc (.cells cs 28)
      rw [hW8, hbl]; simpa using this
    · rw [hW8]; exact ((((((Below.refl _ w).alloc (Nat.le_refl _) _).alloc (by simp) _).alloc (by simp; omega) _).alloc (by simp; omega) _).alloc (by simp; omega) _).alloc (by simp; omega) _
  have hbV : NBox W8 bv d (.slice ai ni ci) (.slice al nl cl) (.slice ao no co) (.slice ab nb cb) (.slice ac nc cc) (.slice am nm cm) (.slice aa na ca) := by
    have := Blk.new (((((w.alloc (.cells cs 28)).alloc (.cells #[.int .i64 0] 33)).alloc (.cells (madeCells #[.bool false] (V + 1)) 4)).alloc (.cells #[.slice (some ⟨w.heap.size + 1 + 1, 0, none⟩) (V + 1) (V + 1)] 99)).alloc (.cells #[.int .i64 (V : Int)] 3)) 28 cs
    unfold NBox
    rw [hW8, hbv, HVV.out, ← hcs]; simpa using this
  have hsz : W8.heap.size = w.heap.size + 6 := by rw [hW8]; simp
  have hseq : SeqStopsK Fence.wide (9 - 1) Tryd.prog 97 #[.pointer (some ⟨bv, 0, none⟩)] (fun x : Int => #[.int .i64 x]) (KpC (fun k => k = br ∨ k = g ∨ k = bl) w.heap.size) (fun xs => xs = definedN d) (fun p => p <+: definedN d) (definedN d).length W8 := fun l J Jx W hW hJ hJx hY h0 =>
    vars1_in (9 - 1) (by omega) HP.out HL.out HM.out (hI0.low.trans (hW.mono hI0.low.size)) (hbV.later hW) (fun k hk => by have := hW.size; omega) (by omega) l J Jx hJ hY h0
  rw [← hW8]
  rw [← hbv, ← hbl, ← hbs, ← hg, ← hbr, ← hbx]
  have HSEQ := Lib.hid hseq
  have HI0 := Lib.hid hI0
  have HCS := Lib.hid hcs
  have HSZ : Hid (W8.heap.size = w.heap.size + 6 ∧ bx = w.heap.size ∧ br = w.heap.size + 1 ∧ g = w.heap.size + 2 ∧ bs = w.heap.size + 3 ∧ bl = w.heap.size + 4 ∧ bv = w.heap.size + 5) := Lib.hid (by omega)
  clear hmk hseq hI0 hbV hsz hcs hW8 hbx hbr hg hbs hbl hbv
  refine wpIn_rangeFunc_ownG rfl (by omega) (gf := 97) (lb := #[.pointer (some ⟨bv, 0, none⟩)]) rfl trivial (enters_of Tryd.func97 (by kernel_rfl) rfl) HSEQ.out
    (fun h k => h.trans k) (fun W l o o' hl ho hc _ => ⟨belowPut (by have := HSZ.out; omega) ho, fun k c hk hcc _ => (World.putObj_heap_other (fun e => by subst e; rw [ho] at hk; cases hk; rw [hc] at hcc; cases hcc)).trans hk⟩) (Below.refl _ _) (fun _ => rfl)
    (DefI w V bx br g bs bl cs) (DefX w V br)
    (fun p W W' row hi hg' hr => ⟨hi.defs, blk_own hi.net hg' (fun r e => (hr r e).2), blk_own hi.res hg' (fun r e => (hr r e).2), blk_own hi.seen hg' (fun r e => (hr r e).2), blk_own hi.row hg' (fun r e => (hr r e).2), blk_own hi.left hg' (fun r e => (hr r e).2), below_own hi.low hg' hi.low.size (fun r e => by have := (hr r e).1; have := HSZ.out; omega)⟩)
    (fun c p W W' row hi hg' hr => ⟨hi.jump, by obtain ⟨q, x, code, h1, h2, h3, h4⟩ := hi.why; exact ⟨q, x, code, h1, h2, h3, blk_own h4 hg' (fun r e => (hr r e).2)⟩, below_own hi.low hg' hi.low.size (fun r e => by have := (hr r e).1; have := HSZ.out; omega)⟩)
    HI0.out
    (fun x => { tmps := #[.agg cs, .pointer (some ⟨bx, 0, none⟩), .pointer (some ⟨br, 0, none⟩), .pointer (some ⟨bs, 0, none⟩), .pointer (some ⟨bl, 0, none⟩), .int .i64 x, .pointer (some ⟨bx, 0, none⟩), .int .i64 (V : Int), .int .i64 ((V : Int) + 1), .slice (some ⟨g, 0, none⟩) (V + 1) (V + 1), .pointer (some ⟨bx, 0, none⟩), .int .i64 (V : Int), .agg cs, .func (.func 97) #[] #[.pointer (some ⟨bv, 0, none⟩)], .int .i64 x, undef, undef, undef, undef, undef, undef, undef, undef, undef, undef, undef, undef, undef, undef, undef, undef, undef, undef, undef, undef, undef], defers := [] })
    ?assign ?body ?done ?stop
  case assign =>
    intro l x W K hK
    gi_wp2
    exact hK
  case body =>
    intro l p x W hi hlen
    have hnet := hi.net
    rw [HCS.out] at hnet
    have c0 : W.cell? ⟨bx, 0, none⟩ = some (.int .i64 (V : Int)) := hnet.cell 0
    have cr : W.cell? ⟨br, 0, none⟩ = some (.int .i64 0) := hi.res.cell 0
    have fr : W.frozen? ⟨br, 0, none⟩ = false := hi.res.frozen 0
    have crow : W.cell? ⟨bs, 0, none⟩ = some (.slice (some ⟨g, 0, none⟩) (V + 1) (V + 1)) := hi.row.cell 0
    have HI := Lib.hid hi
    have hpl := hi.defs.len
    rw [List.length_reverse] at hpl
    have hpl2 : p.length ≤ V := by omega
    clear hnet hlen hpl
    by_cases hb1 : x < 1
    · have HB1 := Lib.hid hb1
      clear hi
      gi_wp2
      refine ⟨(KeepsOthers.setCell _ _ _).from _, rfl, ⟨p, x, 5, rfl, HI.out.defs, .inl ⟨rfl, .inl HB1.out⟩, ?_⟩, HI.out.low.setCell (p := ⟨br, 0, none⟩) (by have := HSZ.out; simp; omega) _⟩
      exact HI.out.res.set_ 0 _
    · by_cases hb2 : (V : Int) < x
      · have HB2 := Lib.hid hb2
        have hb1' : 1 ≤ x := by omega
        clear hi hb1
        gi_wp2
        refine ⟨(KeepsOthers.setCell _ _ _).from _, rfl, ⟨p, x, 5, rfl, HI.out.defs, .inl ⟨rfl, .inr HB2.out⟩, ?_⟩, HI.out.low.setCell (p := ⟨br, 0, none⟩) (by have := HSZ.out; simp; omega) _⟩
        exact HI.out.res.set_ 0 _
      · have hno : ¬ (x < 1 ∨ (V : Int) < x) := by omega
        obtain ⟨xn, hxn⟩ : ∃ xn : Nat, x = xn := ⟨x.toNat, by omega⟩
        have hxV : xn < V + 1 := by omega
        have qs := hi.seen.cell hxV
        have fs := hi.seen.frozen xn
        have hx1 : 1 ≤ x := by omega
        have hx2 : x ≤ V := by omega
        have HNO := Lib.hid hno
        have HX1 := Lib.hid (And.intro hx1 hx2)
        unfold seenV at qs
        subst hxn
        clear hi hb1 hb2 hno
        by_cases hin : (xn : Int) ∈ p.reverse
        · have HIN := Lib.hid hin
          rw [decide_eq_true hin] at qs
          clear hin
          gi_wp2
          refine ⟨(KeepsOthers.setCell _ _ _).from _, rfl, ⟨p, (xn : Int), 6, rfl, HI.out.defs, .inr ⟨rfl, HNO.out, HIN.out⟩, ?_⟩, HI.out.low.setCell (p := ⟨br, 0, none⟩) (by have := HSZ.out; simp; omega) _⟩
          exact HI.out.res.set_ 0 _
        · have hdef := HI.out.defs.cons HX1.out.1 HX1.out.2 hin
          rw [decide_eq_false hin] at qs
          obtain ⟨m, hm⟩ : ∃ m : Nat, (V : Int) - p.length = (m : Int) := ⟨V - p.length, by omega⟩
          have hleft := HI.out.left
          rw [hm] at hleft
          have cl : W.cell? ⟨bl, 0, none⟩ = some (.int .i64 (m : Int)) := hleft.cell 0
          have fl : W.frozen? ⟨bl, 0, none⟩ = false := hleft.frozen 0
          have hgl : g ≠ bl := by have := HSZ.out; omega
          have hm1 : (m : Int) ≤ 2000 := by omega
          have HD := Lib.hid hdef
          have HLF := Lib.hid hleft
          have HMM := Lib.hid hm
          have HGL := Lib.hid hgl
          have cl2 : (W.setCell ⟨g, xn, none⟩ (.bool true)).cell? ⟨bl, 0, none⟩ = some (.int .i64 (m : Int)) := (Blk.far hleft (p := ⟨g, xn, none⟩) (fun e => hgl e.symm) (.bool true)).cell 0
          clear hin hdef hleft hm hgl
          gi_wp2
          refine ⟨((KeepsOthers.setCell _ _ _).trans (KeepsOthers.setCell _ _ _)).from _, ?_, ?_⟩
          · refine KpC.trans (B := W.setCell ⟨g, xn, none⟩ (.bool true)) ⟨(Below.refl _ _).setCell (by have := HSZ.out; simp; omega) _, fun k o hk _ hS => (Below.heap_setCell W ⟨g, xn, none⟩ _ k (fun e => hS (.inr (.inl e)))).trans hk⟩ ⟨(Below.refl _ _).setCell (by have := HSZ.out; simp; omega) _, fun k o hk _ hS => (Below.heap_setCell _ ⟨bl, 0, none⟩ _ k (fun e => hS (.inr (.inr e)))).trans hk⟩
          · refine ⟨by simpa using HD.out, ?_, ?_, ?_, ?_, ?_, ?_⟩
            · exact (HI.out.net.far (by have := HSZ.out; simp; omega) _).far (by have := HSZ.out; simp; omega) _
            · exact (HI.out.res.far (by have := HSZ.out; simp; omega) _).far (by have := HSZ.out; simp; omega) _
            · have h1 := (VBlk.set_ HI.out.seen xn (.bool true)).ext (f' := seenV (p ++ [(xn : Int)]).reverse) (fun i _ => by rw [List.reverse_append]; exact seenV_cons p.reverse rfl i)
              exact h1.far (p := ⟨bl, 0, none⟩) HGL.out _
            · exact (HI.out.row.far (by have := HSZ.out; simp; omega) _).far (by have := HSZ.out; simp; omega) _
            · have h1 := (Blk.far HLF.out (p := ⟨g, xn, none⟩) (fun e => HGL.out e.symm) (.bool true)).set_ 0 (.int .i64 ((m : Int) - 1))
              have e : (m : Int) - 1 = (V : Int) - (p ++ [(xn : Int)]).length := by have := HMM.out; simp; omega
              rw [← e]
              exact h1
            · exact (HI.out.low.setCell (by have := HSZ.out; simp; omega) _).setCell (by have := HSZ.out; simp; omega) _
  case done =>
    rintro D xs W hD rfl hi hK
    have hans : ans = if V ≤ (definedN d).length then 0 else 7 := by
      have h1 := definesN_app (V := (V : Int)) (l := definedN d) (r := []) (sn := []) (by simpa using hi.defs)
      rw [List.append_nil, List.append_nil] at h1
      rw [HA.out, h1, definesN_nil hi.defs, List.length_reverse, Int.toNat_natCast]
    have HANS := Lib.hid hans
    have cr : W.cell? ⟨br, 0, none⟩ = some (.int .i64 0) := hi.res.cell 0
    have fr : W.frozen? ⟨br, 0, none⟩ = false := hi.res.frozen 0
    have HI := Lib.hid hi
    have hpl := hi.defs.len
    rw [List.length_reverse] at hpl
    obtain ⟨m, hm⟩ : ∃ m : Nat, (V : Int) - (definedN d).length = (m : Int) := ⟨V - (definedN d).length, by omega⟩
    have hleft := hi.left
    rw [hm] at hleft
    have cl : W.cell? ⟨bl, 0, none⟩ = some (.int .i64 (m : Int)) := hleft.cell 0
    have HMM := Lib.hid hm
    have HEND : Hid (∀ code : Int, code = ans → (W.setCell ⟨br, 0, none⟩ (.int .i64 code)).heap[D]? = some (.deferred (some [])) ∧
        ((W.setCell ⟨br, 0, none⟩ (.int .i64 code)).putObj D (.deferred none)).cell? ⟨br, 0, none⟩ = some (.int .i64 code) ∧ Below w.heap.size w ((W.setCell ⟨br, 0, none⟩ (.int .i64 code)).putObj D (.deferred none))) := Lib.hid fun code _ => by
      have hK2 := (KeepsOthers.setCell W ⟨br, 0, none⟩ (.int .i64 code)).same D _ hK rfl
      exact ⟨hK2, cell_kept ((HI.out.res.set_ 0 (.int .i64 code)).cell 0) (grownBy_putObj' _ D (.deferred none)) (fun r e => by cases e; exact ⟨_, hK2, rfl⟩), (HI.out.low.setCell (p := ⟨br, 0, none⟩) (by have := HSZ.out; simp; omega) _).trans (belowPut (by have := HSZ.out; omega) hK2)⟩
    clear hi hleft hm hans hpl
    by_cases hm0 : 0 < (m : Int)
    · have hF : Hid (ans = 7) := Lib.hid (by rw [HANS.out, if_neg (by have := HMM.out; omega)])
      gi_wp2
      obtain ⟨hK2, hcr, hB⟩ := HEND.out 7 hF.out.symm
      refine ⟨by simp, .inl ⟨_, _, rfl, run_takeDeferred hK2, ?_⟩⟩
      refine ⟨.int .i64 7, by simp [results, Tryd.results73, go_sem, hcr], ?_, hB⟩
      rw [hF.out]
    · have hm0' : (m : Int) ≤ 0 := by omega
      have hF : Hid (ans = 0) := Lib.hid (by rw [HANS.out, if_pos (by have := HMM.out; omega)])
      clear hm0
      gi_wp2
      obtain ⟨hK2, hcr, hB⟩ := HEND.out 0 hF.out.symm
      refine ⟨by simp, .inl ⟨_, _, rfl, run_takeDeferred hK2, ?_⟩⟩
      refine ⟨.int .i64 0, by simp [results, Tryd.results73, go_sem, hcr], ?_, hB⟩
      rw [hF.out]
  case stop =>
    rintro D c p W hD hp hx hK
    obtain rfl := hx.jump
    have hb := hx.code hp
    rw [← HA.out] at hb
    have hcr : (W.putObj D (.deferred none)).cell? ⟨br, 0, none⟩ = some (.int .i64 ans) := cell_kept (hb.cell 0) (grownBy_putObj' _ D (.deferred none)) (fun r e => by cases e; exact ⟨_, hK, rfl⟩)
    have HB := Lib.hid (hx.low.trans (belowPut (o' := .deferred none) (by have := HSZ.out; omega) hK))
    clear hx hb
    gi_wp2
    refine ⟨by simp, .inl ⟨_, _, rfl, run_takeDeferred hK, ?_⟩⟩
    refine ⟨.int .i64 ans, by simp [results, Tryd.results73, go_sem, hcr], rfl, HB.out⟩
end Go.Proofs.YtlahecdpcpejpaaDoor
