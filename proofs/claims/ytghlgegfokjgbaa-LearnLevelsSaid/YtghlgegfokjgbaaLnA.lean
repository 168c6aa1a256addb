/-
  Chapter 23, PLAIN: how many levels a clause's variables have; what a Run keeps of the marks.
-/
import Derived.Test.YtghlgegfokjgbaaWbE
import Derived.Test.YtghlgegfokjgbaaNormW
namespace Go.Proofs.Ytghlgegfokjgbaa
open Go Go.ChangeShapes Go.WideShapes Go.ChangeAt Go.RowKit
set_option linter.unusedVariables false
set_option linter.unusedSimpArgs false
/-- Marks bear levels that are there. -/
def LvB (t : TS) : Prop := ∀ v : Nat, 0 ≤ (t.ms.getD v (0, 0, 0)).2.1 ∧ (t.ms.getD v (0, 0, 0)).2.1 ≤ (t.lv.length : Int)
theorem LvB.new (n : Nat) : LvB (TS.new n) := fun v => by
  unfold TS.new
  simp only [List.getD_eq_getElem?_getD, List.getElem?_replicate]
  split <;> simp
theorem LvB.put {t : TS} (h : LvB t) (l r : Int) : LvB (t.put l r) := fun v => by
  show 0 ≤ ((t.ms.set (varOf l).toNat (signOf l, (t.lv.length : Int), r)).getD v (0, 0, 0)).2.1 ∧ ((t.ms.set (varOf l).toNat (signOf l, (t.lv.length : Int), r)).getD v (0, 0, 0)).2.1 ≤ (t.lv.length : Int)
  by_cases hv : (varOf l).toNat = v
  · subst hv
    simp only [List.getD_eq_getElem?_getD, List.getElem?_set]
    split
    · split
      · simp
      · simp
    · simp_all
  · rw [getD_set_ne _ _ _ _ _ hv]
    exact h v
theorem LvB.up {t : TS} (h : LvB t) : LvB t.up := fun v => by
  have := h v
  show 0 ≤ (t.ms.getD v (0, 0, 0)).2.1 ∧ (t.ms.getD v (0, 0, 0)).2.1 ≤ ((t.lv ++ [(t.l.length : Int)]).length : Int)
  have h2 : ((t.lv ++ [(t.l.length : Int)]).length : Int) = (t.lv.length : Int) + 1 := by simp
  rw [h2]
  omega
theorem LvB.imp {t : TS} (h : LvB t) (l r : Int) : LvB (impT t l r) := by
  unfold impT
  split
  · exact h.put l r
  · exact h
theorem LvB.visit {S : WS} (h : LvB S.t) (k : Nat) (wrong : Int) : LvB (visitF S k wrong).1.t := by
  unfold visitF
  split
  · exact h
  · split
    · exact h
    · split
      · exact h
      · split
        · exact h
        · exact h.imp _ _
theorem LvB.add {S : WS} (h : LvB S.t) (c : List Int) : LvB (addF S c).t := by
  unfold addF
  dsimp only
  split
  · exact h.imp _ _
  · exact h
theorem RunLaw.lvb {Q : WS → Prop} {R : WS → List Int → List Int → Prop} {E : Int → Bool → WS → Prop} (h : RunLaw Q R E) : RunLaw (fun S => Q S ∧ LvB S.t) (fun S a b => R S a b ∧ LvB S.t) (fun id fine S => E id fine S ∧ LvB S.t) where
  qb := fun S hq => h.qb S hq.1
  skip := fun S hq a b => ⟨h.skip S hq.1 a b, hq.2⟩
  start := fun S hq a b => ⟨h.start S hq.1 a b, hq.2⟩
  rb := fun S a b hr => h.rb S a b hr.1
  vis := fun S a id b hr => h.vis S a id b hr.1
  step := fun S a k b hr hf => ⟨h.step S a k b hr.1 hf, hr.2.visit _ _⟩
  confl := fun S a k b hr hf => ⟨h.confl S a k b hr.1 hf, hr.2.visit _ _⟩
  finish := fun S a hr => ⟨h.finish S a hr.1, hr.2⟩
  done := fun S hq hd => ⟨h.done S hq.1 hd, hq.2⟩
/-- A Run in a law of this chapter. -/
theorem run_lv {B : Nat} {w0 w : World} {r : Nat → Nat} {wb t : Nat} {S : WS} {og : List (List Int)} {k : Nat} (h : LW B w0 w r wb t S) (hm : MMode og og k S) (hl : LvB S.t) :
    Calls Try.prog 14 #[.pointer (some ⟨wb, 0, none⟩)] w fun e w' => ∃ id fine S' r', e = .returned (.tuple #[.int .i64 id, .bool fine]) ∧ (HMode og og (k + 1) id fine S' ∧ LvB S'.t ∧ -1 ≤ id ∧ (fine = false → 0 ≤ id)) ∧ LW B w0 w' r' wb t S' ∧ Chg (fun b => B ≤ b ∧ r b ≠ 0) w w' ∧ ∀ b, b < w.heap.size → r' b = r b := by
  rcases hm with ⟨h1, h2, h3⟩ | ⟨h1, h2⟩
  · refine (Run_broken h.at_ h1).mono ?_
    rintro e w' ⟨rfl, rfl⟩
    exact ⟨S.bk, false, S, r, rfl, ⟨.inl ⟨h1, rfl, rfl, h2, h3⟩, hl, by omega, fun _ => h1⟩, h, Chg.refl _ _, fun _ _ => rfl⟩
  · refine (Run_ (run_law og og Any1 (9 * (k + 1))).lvb h.at_ h.hB h1 h2.ok ⟨⟨h2.inv, h1⟩, hl⟩).mono ?_
    rintro e w' ⟨id, fine, S', rfl, ⟨hE, hL⟩, hP⟩
    obtain ⟨r', q1, q2, q3⟩ := h.post hP
    refine ⟨id, fine, S', r', rfl, ⟨.inr ⟨hE.bk, hE⟩, hL, ?_, fun hf => ?_⟩, q1, q2, q3⟩
    · cases fine with
      | true => have := (hE.yes rfl).1; omega
      | false => obtain ⟨j, rfl, -⟩ := hE.no rfl; omega
    · obtain ⟨j, rfl, -⟩ := hE.no hf; omega
/-- A copy's level of a variable. -/
def levR (its : List It) (v : Int) : Int := match its.find? (fun p => absI p.1 == v) with
  | some p => p.2.1
  | none => -1
theorem levR_none {its : List It} {v : Int} (h : ∀ j, j < its.length → absI (its.getD j (0, 0, 0)).1 ≠ v) : levR its v = -1 := by
  unfold levR
  have : its.find? (fun p => absI p.1 == v) = none := by
    rw [List.find?_eq_none]
    intro p hp e
    obtain ⟨j, hj, rfl⟩ := List.getElem_of_mem hp
    have := h j hj
    simp [List.getD, hj] at this
    exact this (by simpa using e)
  rw [this]
theorem levR_at {its : List It} {v : Int} {k : Nat} (hk : k < its.length) (hb : ∀ j, j < k → absI (its.getD j (0, 0, 0)).1 ≠ v) (h : absI (its.getD k (0, 0, 0)).1 = v) : levR its v = (its.getD k (0, 0, 0)).2.1 := by
  unfold levR
  have : its.find? (fun p => absI p.1 == v) = some its[k] := by
    rw [List.find?_eq_some_iff_getElem]
    refine ⟨by simpa [List.getD, hk] using h, k, hk, rfl, fun j hj => ?_⟩
    have := hb j hj
    simp [List.getD, show j < its.length by omega] at this
    simpa using this
  rw [this]
  simp [List.getD, hk]
/-- The copy's levels are the trail's. -/
theorem levR_is {t : TS} (h : TI t) {v : Int} (hv : 1 ≤ v) : levR (itemsOf t) v = t.level v := by
  by_cases hx : ∃ j, j < (itemsOf t).length ∧ absI ((itemsOf t).getD j (0, 0, 0)).1 = v
  · obtain ⟨k, ⟨hk, hkv⟩, hmin⟩ : ∃ k, (k < (itemsOf t).length ∧ absI ((itemsOf t).getD k (0, 0, 0)).1 = v) ∧ ∀ j, j < k → ¬ (j < (itemsOf t).length ∧ absI ((itemsOf t).getD j (0, 0, 0)).1 = v) := by
      obtain ⟨j, hj⟩ := hx
      induction j using Nat.strongRecOn with
      | ind j ih =>
        by_cases hm : ∃ i, i < j ∧ (i < (itemsOf t).length ∧ absI ((itemsOf t).getD i (0, 0, 0)).1 = v)
        · obtain ⟨i, hi, hp⟩ := hm; exact ih i hi hp
        · exact ⟨j, hj, fun i hi hp => hm ⟨i, hi, hp⟩⟩
    rw [levR_at hk (fun j hj e => hmin j hj ⟨by omega, e⟩) hkv]
    unfold itemsOf at hk hkv ⊢
    rw [List.length_map] at hk
    simp [List.getD, hk] at hkv ⊢
    rw [hkv]
  · rw [levR_none (fun j hj e => hx ⟨j, hj, e⟩)]
    unfold TS.level
    split
    · rename_i hc
      rw [Bool.and_eq_true, decide_eq_true_eq] at hc
      exfalso
      unfold TS.has at hc
      rw [decide_eq_true_eq, h.ms] at hc
      have h9 : lit9 v := by unfold lit9; omega
      have ha : absI v = v := by unfold absI; rw [if_neg (by omega)]
      have hs : signOf v = 1 := by unfold signOf; rw [if_neg (by omega)]
      have hval := value9 h.ms h9
      rw [ha, hs, Int.mul_one] at hval
      have find : ∀ x, absI x = v → x ∉ t.l := fun x hxv hm => by
        obtain ⟨j, hj, rfl⟩ := List.getElem_of_mem hm
        refine hx ⟨j, by unfold itemsOf; rw [List.length_map]; exact hj, ?_⟩
        unfold itemsOf
        simp [List.getD, hj]
        exact hxv
      rcases value_cases h.ms h.sg h9 with e | e | e
      · exact find v ha ((h.gt0 h9).1 (by omega))
      · exact hc.2 (by omega)
      · exact find (-v) (by rw [absI_neg, ha]) ((h.lt0 h9).1 (by omega))
    · rfl
theorem lev_bd {t : TS} (h : LvB t) (v : Int) : -1 ≤ t.level v ∧ t.level v ≤ (t.lv.length : Int) := by
  unfold TS.level
  split
  · have := h v.toNat; unfold TS.mark; omega
  · omega
/-- How many levels, round by round. -/
def cntLev (f : Int → Bool) : Nat → Int
  | 0 => 0
  | k + 1 => cntLev f k + (if f k then 1 else 0)
theorem cntLev_filter (f : Int → Bool) : ∀ k, cntLev f k = (((List.range k).filter fun i : Nat => f (i : Int)).length : Int)
  | 0 => rfl
  | k + 1 => by
    rw [List.range_succ, List.filter_append, List.length_append, cntLev, cntLev_filter f k]
    by_cases h : f (k : Int) = true
    · rw [if_pos h]; simp [h]
    · rw [if_neg h]; simp [h]
theorem lev_count {ks : List Int} {d : Nat} {f : Int → Bool} (hn : ks.Nodup) (hk : ∀ x, x ∈ ks ↔ (0 ≤ x ∧ x ≤ (d : Int) ∧ f x = true)) : (ks.length : Int) = cntLev f (d + 1) := by
  rw [cntLev_filter]
  have h1 : (((List.range (d + 1)).filter fun i : Nat => f (i : Int)).map (fun i : Nat => (i : Int))).Nodup := by
    refine List.Pairwise.map _ ?_ ((List.nodup_range (n := d + 1)).sublist List.filter_sublist)
    intro a b hne e
    exact hne (by omega)
  have hp : ks.Perm (((List.range (d + 1)).filter fun i : Nat => f (i : Int)).map (fun i : Nat => (i : Int))) := by
    rw [List.perm_ext_iff_of_nodup hn h1]
    intro x
    rw [hk, List.mem_map]
    constructor
    · rintro ⟨a, b, c⟩
      refine ⟨x.toNat, List.mem_filter.2 ⟨List.mem_range.2 (by omega), ?_⟩, by omega⟩
      have : ((x.toNat : Nat) : Int) = x := by omega
      rw [this]; exact c
    · rintro ⟨i, hi, rfl⟩
      obtain ⟨h1, h2⟩ := List.mem_filter.1 hi
      have := List.mem_range.1 h1
      exact ⟨by omega, by omega, h2⟩
  rw [hp.length_eq, List.length_map]
end Go.Proofs.Ytghlgegfokjgbaa
/-
  Chapter 23: what is a clause, of any numbers.
-/
namespace Go.Proofs.Ytghlgegfokjgbaa
open Go Go.ChangeShapes Go.WideShapes Go.ChangeAt Go.RowKit
set_option linter.unusedVariables false
set_option linter.unusedSimpArgs false
theorem right_cl {c : List Int} {vars : Int} (h1 : vars ≤ 65536) (h : rightB c vars = true) : ClauseL c := fun x hx => by
  unfold rightB at h
  rw [List.all_eq_true] at h
  have := of_decide_eq_true (h x hx)
  exact ⟨this.1, by omega, by omega⟩
set_option maxHeartbeats 1000000 in
/-- The document's Fine, of any numbers. -/
theorem r22_FineG {w : World} {u : Value} {c : List Int} (hu : Ints w u c) (hn30 : c.length ≤ 30) (vars : Int) (h0 : 0 ≤ vars) (h1 : vars ≤ 65536) :
    Calls Try.prog 12 #[u, .int .i64 vars] w fun e w' => e = .returned (.bool (fin22 c vars)) ∧ Below w.heap.size w w' := by
  by_cases hcl : ClauseL c
  · exact r22_Fine hu hcl hn30 vars h0 h1
  have hr : rightB c vars = false := by
    cases h : rightB c vars with
    | false => rfl
    | true => exact absurd (right_cl h1 h) hcl
  have he : fin22 c vars = false := by unfold fin22; rw [hr]; simp
  rw [he]
  have HN := Lib.hid (r17_NormW hu (by omega))
  have HR := Lib.hid (fun W (hW : Below w.heap.size w W) => r17_Right (hu.below hW) vars h0 h1)
  rw [hr] at HR
  obtain ⟨a, cap, rfl, -, hc1, hc2, -⟩ := hu
  obtain ⟨n, hn⟩ : ∃ n, n = c.length := ⟨_, rfl⟩
  rw [← hn] at HN HR hn30 ⊢
  clear he hn hcl hr
  go_enter Try.func12, Try.ntmps12
  go_wp2_with fail
  refine HN.out.mono ?_
  rintro e w1 ⟨z, b, rfl, hz⟩
  have hb : Below w.heap.size w w1 := hz.2.1
  obtain ⟨za, zc, rfl, -, -⟩ := hz.form
  have HB := Lib.hid hb
  have HRR := Lib.hid (HR.out w1 hb)
  clear hz hb
  by_cases hn0 : 0 < n
  · have d0 : decide ((0 : Int) < (n : Int)) = true := decide_eq_true (by omega)
    go_wp2_with ((go_at_call 26; refine (HRR.out).mono ?_; rintro e w' ⟨rfl, rfl⟩))
    go_ret
    exact ⟨rfl, HB.out⟩
  · obtain rfl : n = 0 := by omega
    go_wp2_with ((go_at_call 26; refine (HRR.out).mono ?_; rintro e w' ⟨rfl, rfl⟩))
    go_ret
    exact ⟨rfl, HB.out⟩
end Go.Proofs.Ytghlgegfokjgbaa
/-
  Chapter 23's example: the watch's states, exactly.
-/
namespace Go.Proofs.Ytghlgegfokjgbaa
open Go Go.ChangeShapes Go.WideShapes Go.ChangeAt Go.RowKit
set_option linter.unusedVariables false
set_option linter.unusedSimpArgs false
def lS0 : WS := wNew (TS.new 2)
def lS1 : WS := addF lS0 [-1, 2]
def lS2 : WS := addF lS1 [-1, -2]
def lS3 : WS := { lS2 with t := lS2.t.up.put 1 (-1) }
def lS4 : WS := (visitF lS3 0 (-1)).1
def lS5 : WS := { (visitF lS4 1 (-1)).1 with ls := (visitF lS4 1 (-1)).1.ls.set (slotOf lS4) ((if (visitF lS4 1 (-1)).2.1 then [0] ++ [((1 : Nat) : Int)] else [0]) ++ []) }
theorem llb0 : LB 0 [] := ⟨by simp, fun s => by simp⟩
theorem lits_a : Lits3 [-1, 2] := fun x hx => by simp at hx; unfold lit3; omega
theorem lits_b : Lits3 [-1, -2] := fun x hx => by simp at hx; unfold lit3; omega
theorem llb1 : LB 2 lS1.ls := by
  have h : lS1.ls = watchL [] [-1, 2] 0 2 := by kernel_rfl
  rw [h]
  exact llb0.watch lits_a 0 2 (by simp)
theorem llb2 : LB 4 lS2.ls := by
  have h : lS2.ls = watchL lS1.ls [-1, -2] 1 2 := by kernel_rfl
  rw [h]
  exact llb1.watch lits_b 1 2 (by simp)
theorem ltb0 : TB lS0.t := ⟨by decide +kernel, by decide +kernel, by decide +kernel, by decide +kernel⟩
theorem lsg0 : Signs lS0.t := signs_new 2
theorem ltb1 : TB lS1.t := ⟨by decide +kernel, by decide +kernel, by decide +kernel, by decide +kernel⟩
theorem lsg1 : Signs lS1.t := by unfold Signs; decide +kernel
theorem lsg3 : Signs lS3.t := by unfold Signs; decide +kernel
theorem lsg4 : Signs lS4.t := by unfold Signs; decide +kernel
theorem ltb2 : TB lS2.t := ⟨by decide +kernel, by decide +kernel, by decide +kernel, by decide +kernel⟩
theorem ltb3 : TB lS3.t := ⟨by decide +kernel, by decide +kernel, by decide +kernel, by decide +kernel⟩
theorem ltb4 : TB lS4.t := ⟨by decide +kernel, by decide +kernel, by decide +kernel, by decide +kernel⟩
theorem llb3 : LB 4 lS3.ls := llb2
theorem llb4 : LB 4 lS4.ls := by
  have h : lS4.ls = lS2.ls := by kernel_rfl
  rw [h]; exact llb2
theorem lrun3 : RunB lS3 := ⟨lsg3, ltb3, by decide +kernel, by decide +kernel, by unfold Lits3 lit3; decide +kernel, llb3.mono (by omega)⟩
theorem lrun4 : RunB lS4 := ⟨lsg4, ltb4, by decide +kernel, by decide +kernel, by unfold Lits3 lit3; decide +kernel, llb4.mono (by omega)⟩
theorem lw3 : wrongOf lS3 = -1 := by kernel_rfl
theorem lw4 : wrongOf lS4 = -1 := by kernel_rfl
theorem ldn3 : lS3.dn.length = 0 := by decide +kernel
theorem lback3 : BackOk lS3 := ⟨by decide +kernel, (fun j hj => absurd hj (by rw [ldn3]; omega)), (fun j hj => absurd hj (by rw [ldn3]; omega)), by decide +kernel⟩
def RL (S : WS) (keep rest : List Int) : Prop := (S = lS3 ∧ keep = [] ∧ rest = [0, 1]) ∨ (S = lS4 ∧ keep = [0] ∧ rest = [1])
theorem llaw : RunLaw (fun S => S = lS3) RL (fun id fine S => id = 1 ∧ fine = false ∧ S = lS5) where
  qb := fun S h => by rw [h]; exact lrun3
  skip := fun S h hd hs => by rw [h] at hs; exact absurd hs (by decide +kernel)
  start := fun S h hd hs => by rw [h]; exact .inl ⟨rfl, rfl, by kernel_rfl⟩
  rb := fun S keep rest h => by
    rcases h with ⟨rfl, rfl, rfl⟩ | ⟨rfl, rfl, rfl⟩
    · exact ⟨lrun3, by decide +kernel, by decide +kernel, by simp⟩
    · exact ⟨lrun4, by decide +kernel, by decide +kernel, by simp⟩
  vis := fun S keep id rest h => by
    rcases h with ⟨rfl, rfl, h⟩ | ⟨rfl, rfl, h⟩
    · injection h with h1 h2
      rw [lw3]
      exact ⟨0, by omega, lsg3, ltb3, by decide +kernel, by decide +kernel, by decide +kernel, by decide +kernel, by unfold Lits3 lit3; decide +kernel, llb3.mono (by omega), by decide +kernel⟩
    · injection h with h1 h2
      rw [lw4]
      exact ⟨1, by omega, lsg4, ltb4, by decide +kernel, by decide +kernel, by decide +kernel, by decide +kernel, by unfold Lits3 lit3; decide +kernel, llb4.mono (by omega), by decide +kernel⟩
  step := fun S keep k rest h hf => by
    rcases h with ⟨rfl, rfl, h⟩ | ⟨rfl, rfl, h⟩
    · injection h with h1 h2
      obtain rfl : k = 0 := by omega
      subst h2
      rw [lw3]
      exact .inr ⟨rfl, by decide +kernel, rfl⟩
    · injection h with h1 h2
      obtain rfl : k = 1 := by omega
      rw [lw4] at hf
      exact absurd hf (by decide +kernel)
  confl := fun S keep k rest h hf => by
    rcases h with ⟨rfl, rfl, h⟩ | ⟨rfl, rfl, h⟩
    · injection h with h1 h2
      obtain rfl : k = 0 := by omega
      rw [lw3] at hf
      exact absurd hf (by decide +kernel)
    · injection h with h1 h2
      obtain rfl : k = 1 := by omega
      subst h2
      rw [lw4]
      exact ⟨rfl, rfl, rfl⟩
  finish := fun S keep h => by
    rcases h with ⟨rfl, rfl, h⟩ | ⟨rfl, rfl, h⟩ <;> cases h
  done := fun S h hd => by rw [h] at hd; exact absurd hd (by decide +kernel)
theorem l5_l : lS5.t.l = [1, 2] := by kernel_rfl
theorem l5_d : lS5.t.lv.length = 1 := by kernel_rfl
theorem l5_lev1 : lS5.t.level 1 = 1 := by kernel_rfl
theorem l5_lev2 : lS5.t.level 2 = 1 := by kernel_rfl
theorem l5_rs2 : lS5.t.reason 2 = 0 := by kernel_rfl
theorem l5_c0 : lS5.cl.getD 0 [] = [2, -1] := by kernel_rfl
theorem l5_c1 : lS5.cl.getD 1 [] = [-2, -1] := by kernel_rfl
theorem l5_i0 : isB lS5 ((0 : Nat) : Int) = true := by kernel_rfl
theorem l5_i1 : isB lS5 ((1 : Nat) : Int) = true := by kernel_rfl
end Go.Proofs.Ytghlgegfokjgbaa
