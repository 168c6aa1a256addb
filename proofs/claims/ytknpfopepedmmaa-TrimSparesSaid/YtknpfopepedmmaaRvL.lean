/-
  Package slices: IndexFunc, ContainsFunc, over function values; the closures of rup's Remove.
-/
import Derived.Test.YtknpfopepedmmaaEqI
import Derived.WalkCall
import Derived.Test.YtknpfopepedmmaaRvI
import Derived.Deep.RegionHeld3
namespace Go.Proofs.Ytknpfopepedmmaa
open Go Go.ChangeShapes Go.WideShapes Go.ChangeAt Go.RowKit Go.Maps
set_option linter.unusedVariables false
set_option linter.unusedSimpArgs false
/-- The place of the first one, or -1. -/
def IxP (xs : List (List Int)) (n : List Int) (ans : Int) : Prop := (ans = -1 ∧ ∀ j, j < xs.length → xs.getD j [] ≠ n) ∨ ∃ k : Nat, ans = (k : Int) ∧ k < xs.length ∧ xs.getD k [] = n ∧ ∀ j, j < k → xs.getD j [] ≠ n
set_option maxHeartbeats 2000000 in
set_option maxRecDepth 100000 in
theorem index_ {w : World} {v : Value} {xs : List (List Int)} (h : IntsS w v xs) (n : List Int) (g : FuncId) (lb : Value) (eg : ∀ args w, (callFunc g args).run Try.prog w = .ok (.enter g args) w)
    (hp : ∀ W u c, Below w.heap.size w W → Ints W u c → Calls Try.prog g #[u, lb] W fun e w' => e = .returned (.bool (decide (c = n))) ∧ Below W.heap.size W w') :
    Calls Try.prog 39 #[v, .func (.func g) #[] #[lb]] w fun e w' => (∃ ans : Int, e = .returned (.int .i64 ans) ∧ IxP xs n ans) ∧ Below w.heap.size w w' := by
  obtain ⟨a, cap, hv, k1, k2⟩ := h.form
  obtain ⟨m, hm⟩ : ∃ m, m = xs.length := ⟨_, rfl⟩
  rw [← hm] at hv k1
  subst hv
  have hm9 : m ≤ 9223372036854775807 := Nat.le_trans k1 k2
  have HS := Lib.hid h
  have HM := Lib.hid hm
  have HP := Lib.hid hp
  clear h hm hp k1 k2
  go_enter Try.func39, Try.ntmps39
  go_wp2
  go_loopw [8] (fun i wr => ∃ k : Nat, k ≤ m ∧ i = .int .i64 (k : Nat) ∧ (∀ j, j < k → xs.getD j [] ≠ n) ∧ Below w.heap.size w wr) (fun i _ => m - (intOf i).toNat)
  case atStart => exact ⟨0, Nat.zero_le _, rfl, fun _ h => absurd h (by omega), Below.refl _ _⟩
  case round =>
    obtain ⟨k, hk, rfl, hrel, hW⟩ := hrel
    have HR := Lib.hid hrel
    have HW := Lib.hid hW
    by_cases hlt : (k : Int) < (m : Int)
    · have hkn : k < xs.length := by have := HM.out; omega
      obtain ⟨b, off, cap2, u, hv, q0, hu⟩ := (HS.out.below hW).at_ hkn
      injection hv with e1 e2 e3
      subst e1
      obtain ⟨ua, uc, hue, u1, u2⟩ := hu.form2
      have H1 := Lib.hid (HP.out wr u _ hW hu)
      obtain ⟨c, hc⟩ : ∃ c, c = xs.getD k [] := ⟨_, rfl⟩
      rw [← hc] at hue H1
      have HC := Lib.hid hc
      have HK := Lib.hid hkn
      obtain ⟨cn, hcn⟩ : ∃ cn, cn = c.length := ⟨_, rfl⟩
      rw [← hcn] at hue
      subst hue
      clear e2 e3 hu hrel hW hc hcn hkn u1 u2
      by_cases hz : c = n
      · have HZ : Hid (IxP xs n (k : Int)) := Lib.hid (.inr ⟨k, rfl, HK.out, by rw [← HC.out]; exact hz, HR.out⟩)
        have hd : decide (c = n) = true := decide_eq_true hz
        rw [hd] at H1
        clear hz hd
        go_wp2_with fail
        refine H1.out.mono ?_
        rintro e w2 ⟨rfl, hb2⟩
        have HB2 := Lib.hid (HW.out.trans (hb2.mono HW.out.size))
        clear hb2
        go_wp2
        go_ret
        exact ⟨⟨_, rfl, HZ.out⟩, HB2.out⟩
      · have HZ := Lib.hid hz
        have hd : decide (c = n) = false := decide_eq_false hz
        rw [hd] at H1
        clear hz hd
        go_wp2_with fail
        refine H1.out.mono ?_
        rintro e w2 ⟨rfl, hb2⟩
        have HB2 := Lib.hid (HW.out.trans (hb2.mono HW.out.size))
        clear hb2
        go_wp2
        go_roundw
        case rel =>
          refine ⟨k + 1, by omega, by go_num, fun j hj => ?_, HB2.out⟩
          rcases Nat.lt_or_ge j k with h | h
          · exact HR.out j h
          · rw [show j = k by omega, ← HC.out]; exact HZ.out
        case measure => simp [intOf]; omega
    · have HZ : Hid (IxP xs n (-1)) := Lib.hid (.inl ⟨rfl, fun j hj => HR.out j (by have := HM.out; omega)⟩)
      clear hrel hW
      go_wp2
      go_ret
      exact ⟨⟨_, rfl, HZ.out⟩, HW.out⟩
set_option maxHeartbeats 2000000 in
set_option maxRecDepth 100000 in
theorem indexI_ {w : World} {v : Value} {xs : List Int} (h : Ints w v xs) (p : Int → Bool) (g : FuncId) (l1 l2 : Value) (eg : ∀ args w, (callFunc g args).run Try.prog w = .ok (.enter g args) w)
    (hp : ∀ W x, Below w.heap.size w W → x ∈ xs → Calls Try.prog g #[.int .i64 x, l1, l2] W fun e w' => e = .returned (.bool (p x)) ∧ Below W.heap.size W w') :
    Calls Try.prog 68 #[v, .func (.func g) #[] #[l1, l2]] w fun e w' => (∃ ans : Int, e = .returned (.int .i64 ans) ∧ decide (0 ≤ ans) = xs.any p) ∧ Below w.heap.size w w' := by
  obtain ⟨a, cap, hv, k1, k2⟩ := h.form2
  obtain ⟨m, hm⟩ : ∃ m, m = xs.length := ⟨_, rfl⟩
  rw [← hm] at hv k1
  subst hv
  have hm9 : m ≤ 9223372036854775807 := Nat.le_trans k1 k2
  have HS := Lib.hid h
  have HM := Lib.hid hm
  have HP := Lib.hid hp
  clear h hm hp k1 k2
  go_enter Try.func68, Try.ntmps68
  go_wp2
  go_loopw [8] (fun i wr => ∃ k : Nat, k ≤ m ∧ i = .int .i64 (k : Nat) ∧ (∀ j, j < k → p (xs.getD j 0) = false) ∧ Below w.heap.size w wr) (fun i _ => m - (intOf i).toNat)
  case atStart => exact ⟨0, Nat.zero_le _, rfl, fun _ h => absurd h (by omega), Below.refl _ _⟩
  case round =>
    obtain ⟨k, hk, rfl, hrel, hW⟩ := hrel
    have HR := Lib.hid hrel
    have HW := Lib.hid hW
    by_cases hlt : (k : Int) < (m : Int)
    · have hkn : k < xs.length := by have := HM.out; omega
      obtain ⟨b, off, cap2, hv, q0⟩ := (HS.out.below hW).at2 hkn
      injection hv with e1 e2 e3
      subst e1
      obtain ⟨x, hx⟩ : ∃ x, x = xs.getD k 0 := ⟨_, rfl⟩
      rw [← hx] at q0
      have hmem : x ∈ xs := by rw [hx, List.getD_eq_getElem?_getD, List.getElem?_eq_getElem hkn]; exact List.getElem_mem hkn
      have H1 := Lib.hid (HP.out wr x hW hmem)
      have HX := Lib.hid hx
      have HK := Lib.hid hkn
      have HMM := Lib.hid hmem
      clear e2 e3 hrel hW hx hkn hmem
      cases hz : p x with
      | true =>
        have HZ : Hid (decide (0 ≤ (k : Int)) = xs.any p) := Lib.hid (by
          rw [decide_eq_true (by omega)]
          exact (List.any_eq_true.2 ⟨x, HMM.out, hz⟩).symm)
        rw [hz] at H1
        clear hz
        go_wp2_with fail
        refine H1.out.mono ?_
        rintro e w2 ⟨rfl, hb2⟩
        have HB2 := Lib.hid (HW.out.trans (hb2.mono HW.out.size))
        clear hb2
        go_wp2
        go_ret
        exact ⟨⟨_, rfl, HZ.out⟩, HB2.out⟩
      | false =>
        have HZ := Lib.hid hz
        rw [hz] at H1
        clear hz
        go_wp2_with fail
        refine H1.out.mono ?_
        rintro e w2 ⟨rfl, hb2⟩
        have HB2 := Lib.hid (HW.out.trans (hb2.mono HW.out.size))
        clear hb2
        go_wp2
        go_roundw
        case rel =>
          refine ⟨k + 1, by omega, by go_num, fun j hj => ?_, HB2.out⟩
          rcases Nat.lt_or_ge j k with h | h
          · exact HR.out j h
          · rw [show j = k by omega, ← HX.out]; exact HZ.out
        case measure => simp [intOf]; omega
    · have HZ : Hid (decide (0 ≤ (-1 : Int)) = xs.any p) := Lib.hid (by
        rw [decide_eq_false (by omega)]
        refine (List.any_eq_false.2 fun x hx => ?_).symm
        obtain ⟨i, hi, e⟩ := List.getElem_of_mem hx
        have := HR.out i (by have := HM.out; omega)
        rw [List.getD_eq_getElem?_getD, List.getElem?_eq_getElem hi] at this
        rw [← e]
        simpa using this)
      clear hrel hW
      go_wp2
      go_ret
      exact ⟨⟨_, rfl, HZ.out⟩, HW.out⟩
set_option maxHeartbeats 1000000 in
theorem containsI_ {w : World} {v : Value} {xs : List Int} (h : Ints w v xs) (p : Int → Bool) (g : FuncId) (l1 l2 : Value) (eg : ∀ args w, (callFunc g args).run Try.prog w = .ok (.enter g args) w)
    (hp : ∀ W x, Below w.heap.size w W → x ∈ xs → Calls Try.prog g #[.int .i64 x, l1, l2] W fun e w' => e = .returned (.bool (p x)) ∧ Below W.heap.size W w') :
    Calls Try.prog 43 #[v, .func (.func g) #[] #[l1, l2]] w fun e w' => e = .returned (.bool (xs.any p)) ∧ Below w.heap.size w w' := by
  have HI := Lib.hid (indexI_ h p g l1 l2 eg hp)
  obtain ⟨a, cap, hv, k1, k2⟩ := h.form2
  obtain ⟨m, hm⟩ : ∃ m, m = xs.length := ⟨_, rfl⟩
  rw [← hm] at hv
  subst hv
  clear h hm hp k1 k2
  go_enter Try.func43, Try.ntmps43
  go_wp2_with fail
  refine HI.out.mono ?_
  rintro e w1 ⟨⟨ans, rfl, hans⟩, hb⟩
  have HB := Lib.hid hb
  have HA := Lib.hid hans
  clear hb hans
  go_wp2
  go_ret
  exact ⟨by rw [← HA.out]; rfl, HB.out⟩
/-! ### the closures -/
set_option maxHeartbeats 1000000 in
theorem rem1 {W : World} {u nv : Value} {c n : List Int} {bx : Nat} (hb : W.cell? ⟨bx, 0, none⟩ = some nv) (hn : Ints W nv n) (hu : Ints W u c) :
    Calls Try.prog 40 #[u, .pointer (some ⟨bx, 0, none⟩)] W fun e w' => e = .returned (.bool (decide (c = n))) ∧ Below W.heap.size W w' := by
  have HE := Lib.hid (eq_I hu hn)
  obtain ⟨a, cap, hv, -, -⟩ := hu.form2
  obtain ⟨a2, cap2, hv2, -, -⟩ := hn.form2
  subst hv hv2
  generalize decide (c = n) = d at *
  generalize c.length = cl at *
  generalize n.length = nl at *
  clear hn hu
  go_enter Try.func40, Try.ntmps40
  go_wp2_with fail
  refine HE.out.mono ?_
  rintro e w1 ⟨rfl, hq⟩
  have HQ := Lib.hid hq.below
  clear hq
  go_wp2
  go_ret
  exact ⟨rfl, HQ.out⟩
set_option maxHeartbeats 1000000 in
theorem rem2 {W : World} {u nv : Value} {c n : List Int} {bx : Nat} (hb : W.cell? ⟨bx, 0, none⟩ = some nv) (hn : Ints W nv n) (hu : Ints W u c) :
    Calls Try.prog 42 #[u, .pointer (some ⟨bx, 0, none⟩)] W fun e w' => e = .returned (.bool (decide (c = n))) ∧ Below W.heap.size W w' := by
  have HE := Lib.hid (eq_I hu hn)
  obtain ⟨a, cap, hv, -, -⟩ := hu.form2
  obtain ⟨a2, cap2, hv2, -, -⟩ := hn.form2
  subst hv hv2
  generalize decide (c = n) = d at *
  generalize c.length = cl at *
  generalize n.length = nl at *
  clear hn hu
  go_enter Try.func42, Try.ntmps42
  go_wp2_with fail
  refine HE.out.mono ?_
  rintro e w1 ⟨rfl, hq⟩
  have HQ := Lib.hid hq.below
  clear hq
  go_wp2
  go_ret
  exact ⟨rfl, HQ.out⟩
end Go.Proofs.Ytknpfopepedmmaa
/-
  Package rup: which clause goes, plainly; a checker without it, in memory.
-/
namespace Go.Proofs.Ytknpfopepedmmaa
open Go Go.ChangeShapes Go.WideShapes Go.ChangeAt Go.RowKit Go.Maps
set_option linter.unusedVariables false
set_option linter.unusedSimpArgs false
/-- The first clause of these literals that is there. -/
def RS.hits (S : RS) (n : List Int) (i : Nat) : Prop := S.onA i = true ∧ S.c i = n
instance (S : RS) (n : List Int) (i : Nat) : Decidable (S.hits n i) := inferInstanceAs (Decidable (_ ∧ _))
def RS.seek (S : RS) (n : List Int) : Option Nat := (List.range S.cl.length).find? fun i => decide (S.hits n i)
theorem seek_some {S : RS} {n : List Int} {k : Nat} (hk : k < S.cl.length) (h : S.hits n k) (ha : ∀ j, j < k → ¬ S.hits n j) : S.seek n = some k := by
  unfold RS.seek
  rw [List.find?_range_eq_some]
  exact ⟨decide_eq_true h, List.mem_range.2 hk, fun j hj => by rw [decide_eq_false (ha j hj)]; rfl⟩
theorem seek_none {S : RS} {n : List Int} (ha : ∀ j, j < S.cl.length → ¬ S.hits n j) : S.seek n = none := by
  unfold RS.seek
  rw [List.find?_eq_none]
  intro i hi
  simpa using ha i (List.mem_range.1 hi)
theorem seek_spec {S : RS} {n : List Int} {k : Nat} (h : S.seek n = some k) : k < S.cl.length ∧ S.hits n k ∧ ∀ j, j < k → ¬ S.hits n j := by
  unfold RS.seek at h
  rw [List.find?_range_eq_some] at h
  obtain ⟨h1, h2, h3⟩ := h
  exact ⟨List.mem_range.1 h2, of_decide_eq_true h1, fun j hj hh => by have := h3 j hj; rw [decide_eq_true hh] at this; cases this⟩
def RS.rem (S : RS) (n : List Int) : RS := match S.seek n with | some k => S.drop k | none => S
theorem onF_gone {S : RS} {id : Nat} (hid : id < S.on.length) : onF (S.gone id) = upd (onF S) (id : Int) none := by
  funext x
  show (if 0 ≤ x ∧ (S.gone id).onA x.toNat = true then some true else none) = if x = (id : Int) then none else (if 0 ≤ x ∧ S.onA x.toNat = true then some true else none)
  by_cases e : x = (id : Int)
  · rw [if_pos e, if_neg (fun h => by have h2 := h.2; rw [gone_on hid, e, Int.toNat_natCast, if_pos rfl] at h2; cases h2)]
  · rw [if_neg e]
    by_cases h0 : 0 ≤ x
    · have e2 : (S.gone id).onA x.toNat = S.onA x.toNat := by rw [gone_on hid, if_neg (by omega)]
      rw [e2]
    · rw [if_neg (fun h => h0 h.1), if_neg (fun h => h0 h.1)]
section
variable {w : World} {r : Nat} {S : RS} {vl vt : Value} {bt bo bm nt no nm : Nat} {us : List Value} {ho : (Int → Option (Option (Nat × Nat × Nat)))}
theorem KP.gone (h : KP w r S vl vt bt bo bm nt no nm us ho) {id : Nat} (hid : id < S.on.length) {w' : World} (hm : MapF eBool w' bt nt (upd (onF S) (id : Int) none)) (hc : Chg (fun k => k = bt) w w') : KP w' r (S.gone id) vl vt bt bo bm nt no nm us ho := by
  have hq := h.toQ.there hm hc
  have hq2 : KQ w' r (S.gone id) vl vt bt bo bm nt no nm us ho (upd (onF S) (id : Int) none) S.ofL := ⟨hq.b, hq.l, hq.c, hq.t, hq.o, hq.of, hq.m, hq.tr, hq.d, hq.sl, hq.st, hq.sh, hq.sx⟩
  exact hq2.toP (onF_gone hid).symm (fun x => rfl)
/-- By which clause a literal of the trail came. -/
def byB (S : RS) (id : Int) (x : Int) : Bool := decide (((markF S (vr x)).getD (false, 0)).2 = id)
theorem byB_any {S : RS} (hc : Con S.T) (id : Nat) : S.T.any (byB S (id : Int)) = S.tr.any fun e => decide (e.2 = (id : Int)) := by
  unfold RS.T
  rw [List.any_map]
  have : ∀ e ∈ S.tr, (byB S (id : Int) ∘ fun e : Int × Int => e.1) e = decide (e.2 = (id : Int)) := fun e he => by
    obtain ⟨i, hi, ei⟩ := List.getElem_of_mem he
    have hgd : S.tr.getD i (0, 0) = e := by rw [List.getD_eq_getElem?_getD, List.getElem?_eq_getElem hi, ← ei]; rfl
    have hm : e.1 ∈ S.T := List.mem_map.2 ⟨e, he, rfl⟩
    have h0 := (hc.li _ hm).1
    have hp := vr_pos h0
    have hf := find_T hc hi (v := vr e.1) (by rw [hgd]; unfold vr; omega)
    have hmk : markF S (vr e.1) = some (decide (0 < e.1), e.2) := by
      unfold markF
      rw [if_neg (by omega), hf, hgd]; rfl
    show byB S (id : Int) e.1 = _
    unfold byB
    rw [hmk]; rfl
  rw [Bool.eq_iff_iff, List.any_eq_true, List.any_eq_true]
  constructor
  · rintro ⟨e, he, h⟩; exact ⟨e, he, by rw [← this e he]; exact h⟩
  · rintro ⟨e, he, h⟩; exact ⟨e, he, by rw [this e he]; exact h⟩
set_option maxHeartbeats 1000000 in
theorem rem3 (h : KP w r S vl vt bt bo bm nt no nm us ho) {x : Int} (hx : lit30 x) {b0 b8 : Nat} {id : Int} (h0 : w.cell? ⟨b0, 0, none⟩ = some (kp r)) (h8 : w.cell? ⟨b8, 0, none⟩ = some (.int .i64 id)) :
    Calls Try.prog 44 #[.int .i64 x, .pointer (some ⟨b0, 0, none⟩), .pointer (some ⟨b8, 0, none⟩)] w fun e w' => e = .returned (.bool (byB S id x)) ∧ Below w.heap.size w w' := by
  have c3 : w.cell? ⟨r, 3, none⟩ = some (.map (some bm)) := h.b.cell 3
  have hlk := h.m.look tmM hx.in64
  obtain ⟨mp, hmp⟩ : ∃ mp, mp = (markF S (vr x)).getD (false, 0) := ⟨_, rfl⟩
  have HB : Hid (byB S id x = decide (mp.2 = id)) := Lib.hid (by unfold byB; rw [hmp])
  obtain ⟨m1, m2⟩ := mp
  replace hlk : (Instr.lookup 70 (.map (some bm)) (.int .i64 (vr x)) false).run Try.prog w = .ok (.agg #[.bool ((markF S (vr x)).getD (false, 0)).1, .int .i64 ((markF S (vr x)).getD (false, 0)).2]) w := hlk
  rw [← hmp] at hlk
  replace hlk : (Instr.lookup 70 (.map (some bm)) (.int .i64 (vr x)) false).run Try.prog w = .ok (.agg #[.bool m1, .int .i64 m2]) w := hlk
  have hw : IntKind.i64.wrap (-x) = -x := IntWalk.i64_in _ (by obtain ⟨a, b, c⟩ := hx; omega)
  have hmx : (if x < -x then -x else x) = vr x := by unfold vr; split <;> omega
  have hmx2 : max x (-x) = vr x := rfl
  have hfl := fld1
  have hlkd : ∀ q, (Instr.lookup 70 (.map (some bm)) (.int .i64 (vr x)) false).run Try.prog (w.drewN q) = .ok (.agg #[.bool m1, .int .i64 m2]) (w.drewN q) := fun q => by
    have h2 := (h.below (below_drewN (Below.refl _ w) q)).m.look tmM hx.in64
    replace h2 : (Instr.lookup 70 (.map (some bm)) (.int .i64 (vr x)) false).run Try.prog (w.drewN q) = .ok (.agg #[.bool ((markF S (vr x)).getD (false, 0)).1, .int .i64 ((markF S (vr x)).getD (false, 0)).2]) (w.drewN q) := h2
    rw [← hmp] at h2
    exact h2
  clear h hx hmp
  go_enter Try.func44, Try.ntmps44
  go_wp2
  go_quiet (fail)
  go_wp2
  go_ret
  exact ⟨by rw [HB.out]; rfl, below_drewN (Below.refl _ _) _⟩
end
end Go.Proofs.Ytknpfopepedmmaa
/-
  Package rup: Remove, walked.
-/
namespace Go.Proofs.Ytknpfopepedmmaa
open Go Go.ChangeShapes Go.WideShapes Go.ChangeAt Go.RowKit Go.Maps
set_option linter.unusedVariables false
set_option linter.unusedSimpArgs false
def seekI (S : RS) (n : List Int) : Int := match S.seek n with | some k => (k : Int) | none => -1
/-- Between two rounds of Remove: where one is. -/
def SkP (S : RS) (n : List Int) (id : Int) : Prop := (id = -1 ∧ S.seek n = none) ∨ ∃ k : Nat, id = (k : Int) ∧ k < S.cl.length ∧ S.c k = n ∧ ∀ j, j < k → ¬ S.hits n j
theorem IntsS.drop {w : World} {a : Option Addr} {m c : Nat} {xs : List (List Int)} (h : IntsS w (.slice a m c) xs) {j : Nat} (hj : j ≤ m) : IntsS w (.slice (if c = j then a else a.map fun x => x.add j) (m - j) (c - j)) (xs.drop j) := by
  obtain ⟨a', c', e, h1, h2, h3⟩ := h
  injection e with e1 e2 e3
  subst e1 e2 e3
  refine ⟨_, _, by rw [List.length_drop], by rw [List.length_drop]; omega, by omega, ?_⟩
  by_cases he : xs.length = j
  · exact .inl (List.drop_eq_nil_of_le (by omega))
  · obtain ⟨b, off, rfl, hc⟩ := h3.resolve_left (fun e => by rw [e] at he hj; simp at he hj; omega)
    rw [if_neg (by omega)]
    refine .inr ⟨b, off + j, by simp [Addr.add], fun i hi => ?_⟩
    rw [List.length_drop] at hi
    obtain ⟨u, hu, hi2⟩ := hc (j + i) (by omega)
    refine ⟨u, by rw [← hu]; congr 2; omega, ?_⟩
    have e : (xs.drop j).getD i [] = xs.getD (j + i) [] := by rw [List.getD_eq_getElem?_getD, List.getElem?_drop, List.getD_eq_getElem?_getD]
    rw [e]; exact hi2
theorem ixP_ex (xs : List (List Int)) (n : List Int) : ∃ z, IxP xs n z := by
  have h : ∀ m, m ≤ xs.length → (∀ j, j < m → xs.getD j [] ≠ n) ∨ ∃ k, k < m ∧ xs.getD k [] = n ∧ ∀ j, j < k → xs.getD j [] ≠ n := by
    intro m
    induction m with
    | zero => exact fun _ => .inl fun j hj => absurd hj (by omega)
    | succ m ih =>
      intro hm
      rcases ih (by omega) with h | ⟨k, h1, h2, h3⟩
      · by_cases e : xs.getD m [] = n
        · exact .inr ⟨m, by omega, e, h⟩
        · refine .inl fun j hj => ?_
          by_cases e2 : j = m
          · rw [e2]; exact e
          · exact h j (by omega)
      · exact .inr ⟨k, by omega, h2, h3⟩
  rcases h xs.length (Nat.le_refl _) with h | ⟨k, h1, h2, h3⟩
  · exact ⟨-1, .inl ⟨rfl, h⟩⟩
  · exact ⟨k, .inr ⟨k, rfl, h1, h2, h3⟩⟩
theorem ixP_one {xs : List (List Int)} {n : List Int} {y z : Int} (h1 : IxP xs n y) (h2 : IxP xs n z) : y = z := by
  rcases h1 with ⟨a1, a2⟩ | ⟨k, a1, a2, a3, a4⟩ <;> rcases h2 with ⟨b1, b2⟩ | ⟨t, b1, b2, b3, b4⟩
  · rw [a1, b1]
  · exact absurd b3 (a2 t b2)
  · exact absurd a3 (b2 k a2)
  · rcases Nat.lt_trichotomy k t with h | h | h
    · exact absurd a3 (b4 k h)
    · rw [a1, b1, h]
    · exact absurd b3 (a4 t h)
def dropA (al : Option Addr) (cl s : Nat) : Option Addr := if cl = s then al else al.map fun x => x.add s
theorem skP_start {S : RS} {n : List Int} {id : Int} (h : IxP S.cl n id) : SkP S n id := by
  rcases h with ⟨e, h⟩ | ⟨k, e, h1, h2, h3⟩
  · exact .inl ⟨e, seek_none fun j hj hh => h j hj hh.2⟩
  · exact .inr ⟨k, e, h1, h2, fun j hj hh => h3 j hj hh.2⟩
theorem skP_next {S : RS} {n : List Int} {k : Nat} {id : Int} (hk : k < S.cl.length) (ha : ∀ j, j < k → ¬ S.hits n j) (hoff : S.onA k = false) (h : IxP (S.cl.drop (k + 1)) n id) : (id = -1 ∧ S.seek n = none) ∨ ∃ t : Nat, id = (t : Int) ∧ k + 1 + t < S.cl.length ∧ SkP S n ((k + 1 + t : Nat) : Int) := by
  have hgd : ∀ i, (S.cl.drop (k + 1)).getD i [] = S.c (k + 1 + i) := fun i => by unfold RS.c; rw [List.getD_eq_getElem?_getD, List.getElem?_drop, List.getD_eq_getElem?_getD]
  have hkk : ¬ S.hits n k := fun hh => by have := hh.1; rw [hoff] at this; cases this
  rcases h with ⟨e, h⟩ | ⟨t, e, h1, h2, h3⟩
  · refine .inl ⟨e, seek_none fun j hj hh => ?_⟩
    rcases Nat.lt_trichotomy j k with hlt | heq | hgt
    · exact ha j hlt hh
    · rw [heq] at hh; exact hkk hh
    · have := h (j - (k + 1)) (by rw [List.length_drop]; omega)
      rw [hgd, show k + 1 + (j - (k + 1)) = j by omega] at this
      exact this hh.2
  · rw [List.length_drop] at h1
    rw [hgd] at h2
    refine .inr ⟨t, e, by omega, .inr ⟨k + 1 + t, rfl, by omega, h2, fun j hj hh => ?_⟩⟩
    rcases Nat.lt_trichotomy j k with hlt | heq | hgt
    · exact ha j hlt hh
    · rw [heq] at hh; exact hkk hh
    · have := h3 (j - (k + 1)) (by omega)
      rw [hgd, show k + 1 + (j - (k + 1)) = j by omega] at this
      exact this hh.2
theorem seekI_none {S : RS} {n : List Int} (h : S.seek n = none) : seekI S n = -1 ∧ (S.seek n).isSome = false ∧ S.rem n = S := by
  unfold seekI RS.rem
  rw [h]; exact ⟨rfl, rfl, rfl⟩
theorem seekI_some {S : RS} {n : List Int} {k : Nat} (h : S.seek n = some k) : seekI S n = (k : Int) ∧ (S.seek n).isSome = true ∧ S.rem n = S.drop k := by
  unfold seekI RS.rem
  rw [h]; exact ⟨rfl, rfl, rfl⟩
section
variable {w : World} {r : Nat} {S : RS} {K : Nat → Prop}
theorem rem_fin0 {w6 : World} {X : RS} {vl vt : Value} {bt bo bm nt no nm : Nat} {us : List Value} {ho : (Int → Option (Option (Nat × Nat × Nat)))} (hK : ∀ g, KS r bt bo bm vl vt ho g → K g) (hnt : nt ≤ S.cl.length) (hno : no ≤ 1000000 * S.cl.length ∧ ∀ u ∈ us, ∀ g, u.ownBlock = some g → K g) (hX : X.cl.length = S.cl.length)
    (h : KP w6 r X vl vt bt bo bm nt no nm us ho) : CkAt w6 r X (fun g => K g ∨ w.heap.size ≤ g) :=
  ⟨vl, vt, bt, bo, bm, nt, no, nm, us, ho, h, fun g hg => .inl (hK g hg), by rw [hX]; exact hnt, by rw [hX]; exact hno.1, fun u hu g hg => .inl (hno.2 u hu g hg)⟩
theorem rem_fin1 {w6 w7 : World} {X : RS} {vl vt : Value} {bt bo bm nt no : Nat} {us : List Value} {ho : (Int → Option (Option (Nat × Nat × Nat)))} (hK : ∀ g, KS r bt bo bm vl vt ho g → K g) (hnt : nt ≤ S.cl.length) (hno : no ≤ 1000000 * S.cl.length ∧ ∀ u ∈ us, ∀ g, u.ownBlock = some g → K g) (hX : X.cl.length = S.cl.length)
    (hc6 : Chg K w w6) (h : AsgQ (w6.alloc (.map #[] 0)) r X vl (.slice none 0 0) bt bo w6.heap.size nt no us ho w7) : Chg K w w7 ∧ CkAt w7 r X (fun g => K g ∨ w.heap.size ≤ g) := by
  obtain ⟨vt7, nm7, hk7, hc7, ho7⟩ := h
  have hs := hc6.size
  refine ⟨(hc6.alloc _).trans hc7 (fun i hi => ?_), vl, vt7, bt, bo, w6.heap.size, nt, no, nm7, us, ho, hk7, fun g hg => ?_, by rw [hX]; exact hnt, by rw [hX]; exact hno.1, fun u hu g hg => .inl (hno.2 u hu g hg)⟩
  · rcases hi with e | e | e
    · exact .inl (hK i (.inl e))
    · exact .inr (by omega)
    · simp [Value.ownBlock] at e
  · rcases hg with e | e | e | e | e | e | e
    · exact .inl (hK g (.inl e))
    · exact .inl (hK g (.inr (.inl e)))
    · exact .inl (hK g (.inr (.inr (.inl e))))
    · exact .inr (by omega)
    · exact .inl (hK g (.inr (.inr (.inr (.inr (.inl e))))))
    · rcases ho7 with o | ⟨g', o, hg'⟩
      · rw [o] at e; simp [Value.ownBlock] at e
      · rw [o] at e; injection e with e; simp at hg'; exact .inr (by omega)
    · exact .inl (hK g (.inr (.inr (.inr (.inr (.inr (.inr e)))))))
set_option maxHeartbeats 8000000 in
set_option maxRecDepth 100000 in
theorem remove_ (h : CkAt w r S K) (hS : Set_ S S.cl.length) (hcl : S.cl.length ≤ 1000000) {u : Value} {c : List Int} (hu : Ints w u c) (hc : ClauseL c) (h30 : Lit30s c) (hlen : c.length ≤ 1000000) :
    Calls Try.prog 15 #[kp r, u] w fun e w' => e = .returned (.tuple #[.int .i64 (seekI S (normC c)), .bool (S.seek (normC c)).isSome]) ∧ Chg K w w' ∧ CkAt w' r (S.rem (normC c)) (fun g => K g ∨ w.heap.size ≤ g) := by
  obtain ⟨vl, vt, bt, bo, bm, nt, no, nm, us, ho, hk, hK, hnt, hno⟩ := h
  obtain ⟨n, hn⟩ : ∃ n, n = normC c := ⟨_, rfl⟩
  have hmf : ∀ (fn : Fn) (first cap : Array Value) (w : World), (Instr.makeFunc fn first cap).run Try.prog w = .ok (.func fn first cap) w := fun _ _ _ _ => rfl
  rw [← hn]
  obtain ⟨wA, hwA⟩ : ∃ wA, wA = w.alloc (.cells #[kp r] 24) := ⟨_, rfl⟩
  have hbA : Below w.heap.size w wA := by rw [hwA]; exact (Below.refl _ w).alloc (Nat.le_refl _) _
  have hA0 : Blk wA w.heap.size 24 #[kp r] := by rw [hwA]; exact Blk.new _ _ _
  have HNM := Lib.hid (cl_Norm (hu.below hbA) hc hlen)
  obtain ⟨fn, hfn⟩ : ∃ fn, fn = fineC c := ⟨_, rfl⟩
  rw [← hfn] at HNM
  have HKP := Lib.hid hk
  have HKK := Lib.hid hK
  have HSS := Lib.hid hS
  have HNT := Lib.hid hnt
  have HNO := Lib.hid hno
  have HN := Lib.hid hn
  have HCL := Lib.hid hcl
  have HBA := Lib.hid hbA
  have HA0 := Lib.hid hA0
  obtain ⟨a, cu, hue, -, -⟩ := hu.form2
  obtain ⟨nc, hnc⟩ : ∃ nc, nc = c.length := ⟨_, rfl⟩
  rw [hue, ← hnc] at HNM
  rw [hue, ← hnc]
  clear hk hK hS hnt hno hu hc h30 hlen hcl hn hue hnc hfn hbA hA0
  go_enter Try.func15, Try.ntmps15
  go_wp2_with fail
  rw [← hwA]
  refine HNM.out.mono ?_
  rintro e w1 ⟨u1, rfl, hown⟩
  have hown' : OwnI wA w1 u1 n := by rw [HN.out]; exact hown
  obtain ⟨a1, cap1, hu1, -, -⟩ := hown'.1.ints.form2
  have HOWN := Lib.hid hown'
  obtain ⟨q, hq⟩ : ∃ q, q = n.length := ⟨_, rfl⟩
  have HQN := Lib.hid hq
  rw [← hq] at hu1
  subst hu1
  obtain ⟨b0, hb0⟩ : ∃ b0, b0 = w.heap.size := ⟨_, rfl⟩
  have HB0 := Lib.hid hb0
  rw [← hb0]
  obtain ⟨w2, hw2⟩ : ∃ w2, w2 = w1.alloc (.cells #[.slice a1 q cap1] 28) := ⟨_, rfl⟩
  have hb12 : Below w1.heap.size w1 w2 := by rw [hw2]; exact (Below.refl _ w1).alloc (Nat.le_refl _) _
  have hbl1 : Below w.heap.size w w1 := HBA.out.trans (hown'.2.1.mono HBA.out.size)
  have hk2 := HKP.out.below (hbl1.trans (hb12.mono hbl1.size))
  have HK2 := Lib.hid hk2
  have HB2 := Lib.hid (hbl1.trans (hb12.mono hbl1.size))
  have hbA0 : Blk w2 b0 24 #[kp r] := by rw [hb0]; exact (HA0.out.below hown'.2.1 HA0.out.lt).below hb12 (by have h1 := HA0.out.lt; have h2 := hown'.2.1.size; omega)
  obtain ⟨b6, hb6⟩ : ∃ b6, b6 = w1.heap.size := ⟨_, rfl⟩
  have hbA6 : Blk w2 b6 28 #[.slice a1 q cap1] := by rw [hw2, hb6]; exact Blk.new _ _ _
  have hn6 : Ints w2 (.slice a1 q cap1) n := HOWN.out.1.ints.below hb12
  have HBA0 := Lib.hid hbA0
  have HBA6 := Lib.hid hbA6
  have HN6 := Lib.hid hn6
  have H66 : Hid (w.heap.size ≤ b6) := Lib.hid (by rw [hb6]; exact hbl1.size)
  obtain ⟨al, cl, hvl⟩ : ∃ a c, vl = .slice a S.cl.length c := by
    rcases HKP.out.l.form with ⟨e, e0, -⟩ | ⟨g, cap, e, -⟩
    · exact ⟨none, 0, by rw [e, e0]⟩
    · exact ⟨_, _, e⟩
  obtain ⟨N, hN⟩ : ∃ N, N = S.cl.length := ⟨_, rfl⟩
  have HNN := Lib.hid hN
  have HVL := Lib.hid hvl
  have c00 : w2.cell? ⟨b0, 0, none⟩ = some (kp r) := hbA0.cell 0
  have cl0 : w2.cell? ⟨r, 0, none⟩ = some (.slice al N cl) := by have := hk2.b.cell 0; rw [hvl, ← hN] at this; exact this
  rw [hw2] at c00 cl0
  have HIX := Lib.hid (index_ (w := w2) (hk2.l.intsS hk2.c) n 40 (.pointer (some ⟨b6, 0, none⟩)) (enters_of Try.func40 (by kernel_rfl) rfl) (fun W u c hW hu => rem1 (((hbA6.below hW hbA6.lt).cell 0)) (hn6.below hW) hu))
  rw [hvl, ← hN] at HIX
  clear hown hown' hq hwA hb0 hb12 hbl1 hk2 hbA0 hbA6 hn6 hvl hN
  go_wp2_with fail
  rw [← hw2, ← hb6]
  refine HIX.out.mono ?_
  rintro e w3 ⟨⟨id, rfl, hid⟩, hb3⟩
  have hb23 : Below w.heap.size w w3 := HB2.out.trans (hb3.mono HB2.out.size)
  have hk3 := HK2.out.below hb3
  clear hw2 hb6 c00 cl0 HIX
  obtain ⟨b8, hb8⟩ : ∃ b8, b8 = w3.heap.size := ⟨_, rfl⟩
  have hb34 : Below w3.heap.size w3 (w3.alloc (.cells #[.int .i64 id] 3)) := (Below.refl _ w3).alloc (Nat.le_refl _) _
  have hB8 : Blk (w3.alloc (.cells #[.int .i64 id] 3)) b8 3 #[.int .i64 id] := by rw [hb8]; exact Blk.new _ _ _
  have HB8 : Hid (Blk (w3.alloc (.cells #[.int .i64 id] 3)) b8 3 #[.int .i64 id] ∧ Below w2.heap.size w2 (w3.alloc (.cells #[.int .i64 id] 3)) ∧ SkP S n id ∧ N - id.toNat ≤ N) := Lib.hid ⟨hB8, hb3.trans (hb34.mono hb3.size), skP_start hid, by omega⟩
  have HL8 : Hid (w2.heap.size ≤ b8) := Lib.hid (by rw [hb8]; exact hb3.size)
  clear hb3 hb23 hk3 hb34 hB8 hid
  have HFX : Hid (∀ W, Below w2.heap.size w2 W → KP W r S vl vt bt bo bm nt no nm us ho ∧ W.cell? ⟨b0, 0, none⟩ = some (kp r) ∧ W.cell? ⟨b6, 0, none⟩ = some (.slice a1 q cap1) ∧ Ints W (.slice a1 q cap1) n ∧ Below w.heap.size w W) := Lib.hid fun W hW =>
    ⟨HK2.out.below hW, (HBA0.out.below hW HBA0.out.lt).cell 0, (HBA6.out.below hW HBA6.out.lt).cell 0, HN6.out.below hW, HB2.out.trans (hW.mono HB2.out.size)⟩
  have hN9 : N ≤ 1000000 := by rw [HNN.out]; exact HCL.out
  go_wp2_with fail
  rw [← hb8]
  clear hb8
  go_loopg [9] (N + 1) (fun gg _ wr => ∃ id : Int, Blk wr b8 3 #[.int .i64 id] ∧ Below w2.heap.size w2 wr ∧ SkP S n id ∧ N - id.toNat ≤ gg)
  case atStart => exact ⟨id, HB8.out.1, HB8.out.2.1, HB8.out.2.2.1, by have := HB8.out.2.2.2; omega⟩
  case round =>
    obtain ⟨id, hB8, hbw, hsk, hgk⟩ := hrel
    have HB8' := Lib.hid hB8
    have HBW := Lib.hid hbw
    have HGK := Lib.hid hgk
    obtain ⟨hkw, d0, d6, hn6, hbw0⟩ := HFX.out wr hbw
    have d8 : wr.cell? ⟨b8, 0, none⟩ = some (.int .i64 id) := hB8.cell 0
    have f8 : wr.frozen? ⟨b8, 0, none⟩ = false := hB8.frozen 0
    have dr1 : wr.cell? ⟨r, 1, none⟩ = some (.map (some bt)) := hkw.b.cell 1
    rcases hsk with ⟨e, hnone⟩ | ⟨k, e, hk, hck, hall⟩
    · subst e
      have HF : Hid (∀ W, Below w.heap.size w W → (-1 = seekI S n ∧ false = (S.seek n).isSome) ∧ Chg K w W ∧ CkAt W r (S.rem n) (fun g => K g ∨ w.heap.size ≤ g)) := Lib.hid fun W hW => by
        obtain ⟨s1, s2, s3⟩ := seekI_none hnone
        rw [s1, s2, s3]
        exact ⟨⟨rfl, rfl⟩, Chg.of_below hW, vl, vt, bt, bo, bm, nt, no, nm, us, ho, HKP.out.below hW, fun g hg => .inl (HKK.out g hg), HNT.out, HNO.out.1, fun u hu g hg => .inl (HNO.out.2 u hu g hg)⟩
      have HBW0 := Lib.hid hbw0
      have d8q : ∀ q, (wr.drewN q).cell? ⟨b8, 0, none⟩ = some (.int .i64 (-1)) := fun q => d8
      clear hB8 hbw hgk hkw d0 d6 hn6 hbw0 f8 dr1 hnone
      go_wp2
      go_quiet (fail)
      rename_i nq
      go_wp2
      go_ret2
      obtain ⟨⟨f1, f2⟩, f3, f4⟩ := HF.out (wr.drewN nq) (below_drewN HBW0.out nq)
      exact ⟨by rw [← f1, ← f2]; rfl, f3, f4⟩
    · subst e
      have hol := on_look hkw (i := k) (by have := HCL.out; omega)
      have holq : ∀ q, (Instr.lookup 68 (.map (some bt)) (.int .i64 (k : Nat)) false).run Try.prog (wr.drewN q) = .ok (.bool (S.onA k)) (wr.drewN q) := fun q => on_look (hkw.below (below_drewN (Below.refl _ wr) q)) (by have := HCL.out; omega)
      have d8q : ∀ q, (wr.drewN q).cell? ⟨b8, 0, none⟩ = some (.int .i64 (k : Nat)) := fun q => d8
      obtain ⟨ob, hob⟩ : ∃ ob, ob = S.onA k := ⟨_, rfl⟩
      rw [← hob] at hol holq
      have HOB := Lib.hid hob
      have HK := Lib.hid hk
      have HCK := Lib.hid hck
      have HALL := Lib.hid hall
      have hk9 : k ≤ 1000000 := by have := HCL.out; omega
      have HBW0 := Lib.hid hbw0
      clear hob hk hck hall hgk hbw0
      cases ob with
      | true =>
        have HSK : Hid (S.seek n = some k) := Lib.hid (seek_some HK.out ⟨HOB.out.symm, HCK.out⟩ HALL.out)
        have HKO : Hid (k < S.on.length) := Lib.hid (by rw [HSS.out.inv.len]; exact HK.out)
        clear hkw d6 hn6 hbw hB8
        go_wp2
        go_quiet (fail)
        rename_i nq
        obtain ⟨w4, hw4⟩ : ∃ w4, w4 = wr.drewN nq := ⟨_, rfl⟩
        have hb4 : Below wr.heap.size wr w4 := by rw [hw4]; exact below_drewN (Below.refl _ wr) nq
        have e8 : w4.cell? ⟨b8, 0, none⟩ = some (.int .i64 (k : Nat)) := by rw [hw4]; exact d8
        rw [← hw4]
        clear hw4 d8 d8q hol holq f8 d0 dr1
        have hbw4 : Below w2.heap.size w2 w4 := HBW.out.trans (hb4.mono HBW.out.size)
        obtain ⟨hk4, e0, -, -, hb04⟩ := HFX.out w4 hbw4
        have er1 : w4.cell? ⟨r, 1, none⟩ = some (.map (some bt)) := hk4.b.cell 1
        have hkd := hk4.below (Below.refl _ w4).drew
        obtain ⟨w5, hdel, hm5, hc5⟩ := hkd.t.drop tmB (x := (k : Int)) ⟨by omega, by omega⟩ 0
        have hc45 : Chg (fun k => k = bt) w4 w5 := ((Chg.refl (fun k => k = bt) w4).drew).trans hc5 (fun i hi => .inl hi)
        have HM5 := Lib.hid hm5
        have HC5 := Lib.hid hc5
        have HK4 := Lib.hid hk4
        have HB04 := Lib.hid hb04
        have HBW4 := Lib.hid hbw4
        have HB4 := Lib.hid hb4
        clear hc5 hkd
        have hk5 := hk4.gone HKO.out hm5 hc45
        have HK5 := Lib.hid hk5
        have HC45 := Lib.hid hc45
        have h2r := HK2.out.b.lt
        have h2t := HK2.out.t.lt
        have hs24 := hbw4.size
        have g0 : w5.cell? ⟨b0, 0, none⟩ = some (kp r) := ((((HBA0.out.below hbw4 HBA0.out.lt)).chg hc45 (fun e => by have := HKP.out.t.lt; have := HB0.out; omega))).cell 0
        have hB85 : Blk w5 b8 3 #[.int .i64 (k : Nat)] := (((HB8'.out.below hb4 HB8'.out.lt)).chg hc45 (fun e => by have := HL8.out; omega))
        have g8 := hB85.cell 0
        have g8 : w5.cell? ⟨b8, 0, none⟩ = some (.int .i64 (k : Nat)) := g8
        have gr6 : w5.cell? ⟨r, 6, none⟩ = some (.int .i64 S.bk) := hk5.b.cell 6
        have HG0 : Hid (∀ W, Below w5.heap.size w5 W → W.cell? ⟨b0, 0, none⟩ = some (kp r) ∧ W.cell? ⟨b8, 0, none⟩ = some (.int .i64 (k : Nat))) := Lib.hid fun W hW => ⟨cellB g0 hW, cellB g8 hW⟩
        clear hm5 hc45 hk4 hk5 hb04 hbw4 hb4 hB85 h2r h2t hs24
        go_wp2
        go_region
        have HDR : Hid (S.rem n = (if S.uses k = true then (S.gone k).againN S.cl.length else S.gone k) ∧ seekI S n = (k : Int) ∧ (S.seek n).isSome = true) := Lib.hid (by
          obtain ⟨s1, s2, s3⟩ := seekI_some HSK.out
          exact ⟨s3, s1, s2⟩)
        have HC5K : Hid (Chg K w w5) := Lib.hid ((Chg.of_below (S := K) HB04.out).trans HC45.out (fun i hi => .inl (HKK.out i (.inr (.inl hi)))))
        have HAG : Hid (∀ W, KP W r (S.gone k) vl vt bt bo bm nt no nm us ho → Calls Try.prog 45 #[kp r] W fun e w' => e = .returned (.tuple #[]) ∧ AsgQ (W.alloc (.map #[] 0)) r ((S.gone k).againN (S.gone k).cl.length) vl (.slice none 0 0) bt bo W.heap.size nt no us ho w') := Lib.hid fun W hW =>
          again_ hW (by show (S.on.set k false).length = S.cl.length; rw [List.length_set]; exact HSS.out.inv.len) HCL.out HSS.out.inv.c0
        have HXL : Hid (((S.gone k).againN S.cl.length).cl.length = S.cl.length) := Lib.hid (by
          have := (again_law (S := S.gone k) (by show (S.on.set k false).length = S.cl.length; rw [List.length_set]; exact HSS.out.inv.len) HSS.out.inv.c0 S.cl.length (Nat.le_refl _)).2.1
          rw [this]; rfl)
        have HAGF : Hid (∀ W W', Below w5.heap.size w5 W → S.uses k = true → AsgQ (W.alloc (.map #[] 0)) r ((S.gone k).againN (S.gone k).cl.length) vl (.slice none 0 0) bt bo W.heap.size nt no us ho W' → W'.cell? ⟨b8, 0, none⟩ = some (.int .i64 (k : Nat)) ∧ Chg K w W' ∧ CkAt W' r (S.rem n) (fun g => K g ∨ w.heap.size ≤ g)) := Lib.hid fun W W' hW hu hq => by
          have hf := rem_fin1 (w := w) HKK.out HNT.out HNO.out HXL.out (HC5K.out.trans (Chg.of_below (S := fun _ => False) hW) (fun i hi => hi.elim)) hq
          obtain ⟨vt7, nm7, -, hc7, -⟩ := hq
          refine ⟨?_, by rw [HDR.out.1, if_pos hu]; exact hf⟩
          have h1 := (HG0.out W hW).2
          have hlt : b8 < W.heap.size := World.block_lt_of_cell? _ _ h1
          have h2 : (W.alloc (.map #[] 0)).cell? ⟨b8, 0, none⟩ = some (.int .i64 (k : Nat)) := cellB h1 ((Below.refl _ W).alloc (Nat.le_refl _) _)
          rw [World.cell?_of_block (w := W.alloc (.map #[] 0)) (hc7.block b8 (by simp; omega) (fun e => by
            rcases e with e | e | e
            · have := HK2.out.b.lt; have := HL8.out; omega
            · omega
            · simp [Value.ownBlock] at e))]
          exact h2
        by_cases hbk : S.bk = (k : Int)
        · have HU : Hid (S.uses k = true) := Lib.hid (by unfold RS.uses; rw [decide_eq_true hbk]; rfl)
          rw [hbk] at gr6
          clear hbk
          go_wp2
          go_quiet (fail)
          rename_i nq
          obtain ⟨w6, hw6⟩ : ∃ w6, w6 = w5.drewN nq := ⟨_, rfl⟩
          have hb6 : Below w5.heap.size w5 w6 := by rw [hw6]; exact below_drewN (Below.refl _ w5) nq
          have k0 := (HG0.out w6 hb6).1
          have HA7 := Lib.hid (HAG.out w6 (HK5.out.below hb6))
          have HB6 := Lib.hid hb6
          rw [← hw6]
          clear hw6 hb6 g0 g8 gr6
          go_wp2_with fail
          refine HA7.out.mono ?_
          rintro e w7 ⟨rfl, hq7⟩
          obtain ⟨l8, l9⟩ := HAGF.out w6 w7 HB6.out HU.out hq7
          have HL9 := Lib.hid l9
          clear l9 hq7
          go_wp2
          go_ret2
          exact ⟨by rw [HDR.out.2.1, HDR.out.2.2]; rfl, HL9.out⟩
        · have hbk2 : (S.bk == (k : Int)) = false := by rw [beq_eq_false_iff_ne]; exact hbk
          have hct := fun W (hW : Below w5.heap.size w5 W) => containsI_ (w := W) (v := vt) (xs := S.T) (by
              have h1 := (HK5.out.below hW).tr
              have e : (S.gone k).tr.length = S.T.length := by rw [S.T_len]; rfl
              rw [e] at h1
              exact Row.ints h1) (byB S (k : Int)) 44 (.pointer (some ⟨b0, 0, none⟩)) (.pointer (some ⟨b8, 0, none⟩)) (enters_of Try.func44 (by kernel_rfl) rfl) (fun W2 x hW2 hx => by
              have hb := hW.trans (hW2.mono hW.size)
              exact rem3 (S := S.gone k) (HK5.out.below hb) (HSS.out.inv.con.li x hx) (HG0.out W2 hb).1 (HG0.out W2 hb).2)
          obtain ⟨ub, hub⟩ : ∃ ub, ub = S.T.any (byB S (k : Int)) := ⟨_, rfl⟩
          rw [← hub] at hct
          have HU : Hid (S.uses k = ub) := Lib.hid (by
            rw [hub, byB_any HSS.out.inv.con]; unfold RS.uses; rw [decide_eq_false hbk]; rfl)
          have HCT : Hid (∀ W, Below w5.heap.size w5 W → Calls Try.prog 43 #[vt, .func (.func 44) #[] #[.pointer (some ⟨b0, 0, none⟩), .pointer (some ⟨b8, 0, none⟩)]] W fun e w' => e = .returned (.bool ub) ∧ Below w5.heap.size w5 w') := Lib.hid fun W hW => (hct W hW).mono fun e w' h => ⟨h.1, hW.trans (h.2.mono hW.size)⟩
          have gr4 : w5.cell? ⟨r, 4, none⟩ = some vt := HK5.out.b.cell 4
          clear hbk hct hub
          go_wp2
          have HC4 : Hid (∀ W, Below w5.heap.size w5 W → W.cell? ⟨r, 6, none⟩ = some (.int .i64 S.bk) ∧ W.cell? ⟨r, 4, none⟩ = some vt) := Lib.hid fun W hW => ⟨(HK5.out.below hW).b.cell 6, (HK5.out.below hW).b.cell 4⟩
          go_region_held3 (fun w' => w'.cell? ⟨b0, 0, none⟩ = some (kp r) ∧ w'.cell? ⟨b8, 0, none⟩ = some (.int .i64 (k : Nat)) ∧ w'.cell? ⟨r, 6, none⟩ = some (.int .i64 S.bk) ∧ w'.cell? ⟨r, 4, none⟩ = some vt) (go_keep) (first
            | (go_at_call 43; refine (HCT.out _ (by first | exact (Below.refl _ _).drew | exact Below.refl _ _)).mono ?_; rintro e w6 ⟨rfl, hb6⟩; have HB6 := Lib.hid hb6; have k0 := (HG0.out w6 hb6).1; have k8 := (HG0.out w6 hb6).2; have k6 := (HC4.out w6 hb6).1; have k4 := (HC4.out w6 hb6).2; clear hb6))
          clear g0 g8 gr6 gr4 k4 k6
          cases ub with
          | true =>
            have HA7 := Lib.hid (HAG.out w6 (HK5.out.below HB6.out))
            clear k8
            go_wp2_with fail
            refine HA7.out.mono ?_
            rintro e w7 ⟨rfl, hq7⟩
            obtain ⟨l8, l9⟩ := HAGF.out w6 w7 HB6.out HU.out hq7
            have HL9 := Lib.hid l9
            clear l9 hq7
            go_wp2
            go_ret2
            exact ⟨by rw [HDR.out.2.1, HDR.out.2.2]; rfl, HL9.out⟩
          | false =>
            have HL9 : Hid (Chg K w w6 ∧ CkAt w6 r (S.rem n) (fun g => K g ∨ w.heap.size ≤ g)) := Lib.hid ⟨HC5K.out.trans (Chg.of_below (S := fun _ => False) HB6.out) (fun i hi => hi.elim), by
              rw [HDR.out.1, if_neg (by rw [HU.out]; decide)]
              exact rem_fin0 (S := S) HKK.out HNT.out HNO.out rfl (HK5.out.below HB6.out)⟩
            go_wp2
            go_ret2
            exact ⟨by rw [HDR.out.2.1, HDR.out.2.2]; rfl, HL9.out⟩
      | false =>
        have HKL : Hid (k + 1 ≤ N) := Lib.hid (by rw [HNN.out]; exact HK.out)
        have hk1 := HKL.out
        have h10 : IntKind.i64.wrap ((k : Int) + 1) = ((k + 1 : Nat) : Int) := by rw [IntWalk.i64_in _ (by omega)]; omega
        obtain ⟨s, hs⟩ : ∃ s, s = k + 1 := ⟨_, rfl⟩
        rw [← hs] at h10 hk1
        have HS1 := Lib.hid hs
        have hsN : (s : Int) ≤ (N : Int) := by omega
        have dr0 : wr.cell? ⟨r, 0, none⟩ = some (.slice al N cl) := by have := hkw.b.cell 0; rw [HVL.out, ← HNN.out] at this; exact this
        have hcap : N ≤ cl := by
          have := hkw.l.form
          rw [HVL.out] at this
          rcases this with ⟨e, e0, -⟩ | ⟨g, cap, e, h1, -⟩
          · injection e with _ e2 _; have := HNN.out; omega
          · injection e with _ _ e3; have := HNN.out; omega
        have hsc : (s : Int) ≤ (cl : Int) := by omega
        obtain ⟨id2, hid2⟩ := ixP_ex (S.cl.drop (k + 1)) n
        have HI2 := Lib.hid hid2
        clear hid2
        have HIX2 : Hid (∀ W, Below wr.heap.size wr W → Calls Try.prog 39 #[.slice (dropA al cl s) (N - s) (cl - s), .func (.func 42) #[] #[.pointer (some ⟨b6, 0, none⟩)]] W fun e w' => e = .returned (.int .i64 id2) ∧ Below wr.heap.size wr w') := Lib.hid fun W hW => by
          have hbW := HBW.out.trans (hW.mono HBW.out.size)
          obtain ⟨hkW, -, e6, en6, -⟩ := HFX.out W hbW
          have hi := hkW.l.intsS hkW.c
          rw [HVL.out, ← HNN.out] at hi
          rw [HS1.out]
          refine (index_ (hi.drop (by have := HKL.out; omega)) n 42 (.pointer (some ⟨b6, 0, none⟩)) (enters_of Try.func42 (by kernel_rfl) rfl) (fun W2 u c hW2 hu => rem2 (cellB e6 hW2) (en6.below hW2) hu)).mono ?_
          rintro e w' ⟨⟨ans, h1, h3⟩, h2⟩
          exact ⟨by rw [h1, ixP_one h3 HI2.out], hW.trans (h2.mono hW.size)⟩
        have HC4 : Hid (∀ W, Below wr.heap.size wr W → W.cell? ⟨b0, 0, none⟩ = some (kp r) ∧ W.cell? ⟨b8, 0, none⟩ = some (.int .i64 (k : Nat)) ∧ W.cell? ⟨r, 0, none⟩ = some (.slice al N cl)) := Lib.hid fun W hW => ⟨cellB d0 hW, cellB d8 hW, cellB dr0 hW⟩
        clear hkw d6 hn6 hbw hs hk1
        go_wp2
        go_quiet (fail)
        rename_i nq
        obtain ⟨w4, hw4⟩ : ∃ w4, w4 = wr.drewN nq := ⟨_, rfl⟩
        have hb4 : Below wr.heap.size wr w4 := by rw [hw4]; exact below_drewN (Below.refl _ wr) nq
        rw [← hw4]
        obtain ⟨m0, m8, mr⟩ := HC4.out w4 hb4
        have HB4 := Lib.hid hb4
        clear hw4 d8 d8q hol holq f8 d0 dr1 dr0 hb4
        have hnx := skP_next HK.out HALL.out HOB.out.symm HI2.out
        have HNX := Lib.hid hnx
        clear hnx
        have hslA : ∀ W : World, (Instr.sliceAt 26 (.slice al N cl) (some (.int .i64 (s : Nat))) none none).run Try.prog W = .ok (.slice (dropA al cl s) (N - s) (cl - s)) W := fun W => by
          rw [run_sliceAt_slice (P := Try.prog) W 26 _ _ _ _ Try.underlying26]
          have h1 : (0 : Int) ≤ (s : Int) := by omega
          rw [run_slice_l (P := Try.prog) W 26 al N cl Try.underlying26 .i64 (s : Int) h1 hsN]
          have hsz : ((sizeOf (Try.prog.elem 26)).run Try.prog W) = .ok 1 W := by kernel_rfl
          rw [hsz]
          simp only [Result.andThen, sliced, Nat.mul_one, Int.toNat_natCast]
          rfl
        have hslB : ∀ W : World, (Instr.slice 26 (.slice al N cl) (some (.int .i64 (s : Nat))) none none).run Try.prog W = .ok (.slice (dropA al cl s) (N - s) (cl - s)) W := fun W => by
          rw [← run_sliceAt_slice (P := Try.prog) W 26 _ _ _ _ Try.underlying26]
          exact hslA W
        have HNX := Lib.hid (skP_next HK.out HALL.out HOB.out.symm HI2.out)
        clear hsN hsc
        go_wp2
        go_region_held3 (fun w' => w'.cell? ⟨b0, 0, none⟩ = some (kp r) ∧ w'.cell? ⟨b8, 0, none⟩ = some (.int .i64 (k : Nat)) ∧ w'.cell? ⟨r, 0, none⟩ = some (.slice al N cl)) (go_keep) (first
          | (go_at_call 39; refine (HIX2.out _ (by first | exact HB4.out.drew | exact HB4.out)).mono ?_; rintro e w5 ⟨rfl, hb5⟩; have HB5 := Lib.hid hb5; have k0 := (HC4.out w5 hb5).1; have k8 := (HC4.out w5 hb5).2.1; have kr := (HC4.out w5 hb5).2.2; clear hb5))
        have hB85 : Blk w5 b8 3 #[.int .i64 (k : Nat)] := HB8'.out.below HB5.out HB8'.out.lt
        have k8f : w5.frozen? ⟨b8, 0, none⟩ = false := hB85.frozen 0
        have hbw5 := HBW.out.trans (HB5.out.mono HBW.out.size)
        clear hslA hslB m0 m8 mr kr k0
        rcases HNX.out with ⟨e, hnone⟩ | ⟨t, e, ht, hsk⟩
        · have HF : Hid ((-1 = seekI S n ∧ false = (S.seek n).isSome) ∧ Chg K w w5 ∧ CkAt w5 r (S.rem n) (fun g => K g ∨ w.heap.size ≤ g)) := Lib.hid (by
            obtain ⟨s1, s2, s3⟩ := seekI_none hnone
            obtain ⟨-, -, -, -, hb0⟩ := HFX.out w5 hbw5
            rw [s1, s2, s3]
            exact ⟨⟨rfl, rfl⟩, Chg.of_below hb0, vl, vt, bt, bo, bm, nt, no, nm, us, ho, HKP.out.below hb0, fun g hg => .inl (HKK.out g hg), HNT.out, HNO.out.1, fun u hu g hg => .inl (HNO.out.2 u hu g hg)⟩)
          subst e
          clear hB85 k8f hbw5 hnone HIX2 HI2 HNX
          go_wp2
          try rw [Exit.noGoto_ret]
          go_ret2
          exact ⟨by rw [← HF.out.1.1, ← HF.out.1.2]; rfl, HF.out.2⟩
        · subst e
          have ht9 : t ≤ 1000000 := by have := HCL.out; omega
          have HSK := Lib.hid hsk
          have HG9 : Hid (N - (k + 1 + t) < gk ∧ N - ((k + 1 + t : Nat) : Int).toNat ≤ N - (k + 1 + t)) := Lib.hid (by
            have h1 := HGK.out
            have h2 := HNN.out
            rw [Int.toNat_natCast] at h1 ⊢
            omega)
          have HB9 : Hid (Blk (w5.setCell ⟨b8, 0, none⟩ (.int .i64 ((k : Int) + ((t : Int) + 1)))) b8 3 #[.int .i64 ((k + 1 + t : Nat) : Int)] ∧ Below w2.heap.size w2 (w5.setCell ⟨b8, 0, none⟩ (.int .i64 ((k : Int) + ((t : Int) + 1))))) := Lib.hid ⟨by
            have := hB85.set_ 0 (.int .i64 ((k : Int) + ((t : Int) + 1)))
            have e : ((k + 1 + t : Nat) : Int) = (k : Int) + ((t : Int) + 1) := by omega
            rw [e]; exact this, ((Chg.of_below (S := fun g => g = b8) hbw5).setCell (p := ⟨b8, 0, none⟩) (.inl rfl) _).below (Nat.le_refl _) (fun i hi => by rw [hi]; exact HL8.out)⟩
          clear hB85 hbw5 hsk ht HIX2 HI2 HNX
          go_wp2
          go_roundg (N - (k + 1 + t))
          case measure => exact HG9.out.1
          case rel => exact ⟨_, HB9.out.1, HB9.out.2, HSK.out, HG9.out.2⟩
end
end Go.Proofs.Ytknpfopepedmmaa
