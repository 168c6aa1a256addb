/-
  Package watch, PLAIN: what a trail's data keep, of literals from 1 to 9.
-/
import Derived.Test.YtghlgegfokjgbaaWaD
import Derived.Test.YtghlgegfokjgbaaWaV
namespace Go.Proofs.Ytghlgegfokjgbaa
open Go.ChangeShapes Go.WideShapes Go.ChangeAt Go.RowKit
set_option linter.unusedVariables false
set_option linter.unusedSimpArgs false
theorem lit9.neg {x : Int} (h : lit9 x) : lit9 (-x) := by unfold lit9 at *; omega
theorem lit9.l3 {x : Int} (h : lit9 x) : lit3 x := by unfold lit9 at h; unfold lit3; omega
theorem lit9.abs {x : Int} (h : lit9 x) : 1 ≤ absI x ∧ absI x ≤ 9 := by unfold lit9 at h; unfold absI; split <;> omega
theorem absI_neg (x : Int) : absI (-x) = absI x := by unfold absI; split <;> split <;> omega
theorem absI_eq {x y : Int} (h : absI x = absI y) : x = y ∨ x = -y := by unfold absI at h; split at h <;> split at h <;> omega
theorem varOf9 {x : Int} (h : lit9 x) : varOf x = absI x := by
  unfold varOf absI
  split
  · unfold lit9 at h; exact IntWalk.wrap64_in _ (by omega)
  · rfl
theorem signOf_neg {x : Int} (h : x ≠ 0) : signOf (-x) = - signOf x := by unfold signOf; split <;> split <;> omega
theorem signOf_cases (x : Int) : signOf x = 1 ∨ signOf x = -1 := by unfold signOf; split <;> simp
theorem sign_abs {x y : Int} (h : absI x = absI y) (hx : x ≠ 0) : (signOf x * signOf y = 1 ∧ x = y) ∨ (signOf x * signOf y = -1 ∧ x = -y) := by
  unfold absI at h; unfold signOf
  split at h <;> split at h <;> simp [*] <;> omega
theorem has9 {t : TS} (hm : t.ms.length = 10) {x : Int} (h : lit9 x) : t.has (varOf x) = true := by
  rw [varOf9 h]; have := h.abs
  unfold TS.has; rw [hm]; exact decide_eq_true (by omega)
theorem value9 {t : TS} (hm : t.ms.length = 10) {x : Int} (h : lit9 x) : t.value x = (t.mark (absI x)).1 * signOf x := by
  unfold TS.value; rw [if_pos (has9 hm h), varOf9 h]
theorem value_neg {t : TS} (hm : t.ms.length = 10) {x : Int} (h : lit9 x) : t.value (-x) = - t.value x := by
  rw [value9 hm h, value9 hm h.neg, absI_neg, signOf_neg h.1, Int.mul_neg]
theorem mark_sg {t : TS} (h : Signs t) (v : Int) : -1 ≤ (t.mark v).1 ∧ (t.mark v).1 ≤ 1 := by
  unfold TS.mark
  rw [List.getD_eq_getElem?_getD]
  cases hx : t.ms[v.toNat]? with
  | none => simp
  | some m => exact h m (List.mem_of_getElem? hx)
theorem value_cases {t : TS} (hm : t.ms.length = 10) (hs : Signs t) {x : Int} (h : lit9 x) : t.value x = 1 ∨ t.value x = 0 ∨ t.value x = -1 := by
  rw [value9 hm h]
  have := mark_sg hs (absI x)
  rcases signOf_cases x with e | e <;> rw [e] <;> omega
theorem free9 {t : TS} (hm : t.ms.length = 10) {x : Int} (h : lit9 x) : t.isFree x = true ↔ t.value x = 0 := by
  rw [value9 hm h]
  unfold TS.isFree
  rw [has9 hm h, varOf9 h, Bool.true_and, decide_eq_true_eq]
  rcases signOf_cases x with e | e <;> rw [e] <;> omega
theorem put_mark {t : TS} (hm : t.ms.length = 10) {x y : Int} (r : Int) (hx : lit9 x) (hy : lit9 y) :
    (t.put x r).mark (absI y) = if absI y = absI x then (signOf x, (t.lv.length : Int), r) else t.mark (absI y) := by
  have h1 := hx.abs
  have h2 := hy.abs
  show (t.ms.set (varOf x).toNat _).getD (absI y).toNat (0, 0, 0) = _
  rw [varOf9 hx]
  by_cases e : absI y = absI x
  · rw [if_pos e, e]
    exact getD_set_self _ _ _ _ (by omega)
  · rw [if_neg e]
    exact getD_set_ne _ _ _ _ _ (by omega)
theorem clear_kept : ∀ (vs : List Int) (ms : List Mk) (v : Int), (∀ u ∈ vs, u.toNat ≠ v.toNat) → (vs.foldl clearV ms).getD v.toNat (0, 0, 0) = ms.getD v.toNat (0, 0, 0)
  | [], ms, v, _ => rfl
  | u :: vs, ms, v, h => by
    rw [List.foldl_cons, clear_kept vs _ v (fun w hw => h w (List.mem_cons_of_mem _ hw))]
    unfold clearV
    exact getD_set_ne _ _ _ _ _ (h u List.mem_cons_self)
theorem getD_mem' {l : List Int} {i : Nat} (h : i < l.length) : l.getD i 0 = l[i] := by simp [List.getD, h]
/-- What a trail's data keep. -/
structure TI (t : TS) : Prop where
  ok : t.ok
  sg : Signs t
  ms : t.ms.length = 10
  li : ∀ x ∈ t.l, lit9 x
  val : ∀ x, lit9 x → (t.value x = 1 ↔ x ∈ t.l)
  nd : t.l.Nodup
  whp : ∀ y ∈ t.wh, 1 ≤ y
  lvs : t.lv.Pairwise (· < ·)
  lvb : ∀ p ∈ t.lv, p < (t.l.length : Int)
theorem TI.lv_ge {t : TS} (h : TI t) : ∀ i, i < t.lv.length → (i : Int) ≤ t.lv.getD i 0
  | 0, hi => by
    have := h.ok.lev (t.lv.getD 0 0) (by rw [getD_mem' hi]; exact List.getElem_mem hi)
    omega
  | i + 1, hi => by
    have h1 := TI.lv_ge h i (by omega)
    have h2 := (List.pairwise_iff_getElem.1 h.lvs) i (i + 1) (by omega) hi (by omega)
    rw [getD_mem' (by omega : i < t.lv.length)] at h1
    rw [getD_mem' hi]
    omega
theorem TI.lv_lt {t : TS} (h : TI t) {level : Nat} (hl : level < t.lv.length) {p : Int} (hp : p ∈ t.lv.take level) : p < t.lv.getD level 0 := by
  obtain ⟨i, hi, rfl⟩ := List.getElem_of_mem hp
  rw [List.length_take] at hi
  rw [getD_mem' hl, List.getElem_take]
  exact (List.pairwise_iff_getElem.1 h.lvs) i level (by omega) hl (by omega)
theorem TI.m1 {t : TS} (h : TI t) {x : Int} (hx : lit9 x) : t.value x = -1 ↔ -x ∈ t.l := by
  rw [← h.val _ hx.neg, value_neg h.ms hx]; omega
theorem TI.lt0 {t : TS} (h : TI t) {x : Int} (hx : lit9 x) : t.value x < 0 ↔ -x ∈ t.l := by
  rw [← h.m1 hx]; rcases value_cases h.ms h.sg hx with e | e | e <;> omega
theorem TI.gt0 {t : TS} (h : TI t) {x : Int} (hx : lit9 x) : 0 < t.value x ↔ x ∈ t.l := by
  rw [← h.val _ hx]; rcases value_cases h.ms h.sg hx with e | e | e <;> omega
theorem TI.cons {t : TS} (h : TI t) {x : Int} (hx : x ∈ t.l) : -x ∉ t.l := fun hn => by
  have h1 := (h.val x (h.li x hx)).2 hx
  have h2 := (h.m1 (h.li x hx)).2 hn
  omega
theorem TI.len {t : TS} (h : TI t) : t.l.length ≤ 9 := by
  have hs : (t.l.map absI).Nodup := by
    refine List.Pairwise.map _ ?_ (List.Pairwise.and_mem.1 h.nd)
    intro a b ⟨ha, hb, hne⟩ he
    rcases absI_eq he with e | e
    · exact hne e
    · rw [e] at ha; exact h.cons hb ha
  have := hs.length_le_of_subset (l₂ := [1, 2, 3, 4, 5, 6, 7, 8, 9]) (fun v hv => by
    obtain ⟨x, hx, rfl⟩ := List.mem_map.1 hv
    have := (h.li x hx).abs
    simp; omega)
  simpa using this
theorem TI.new : TI (TS.new 9) := by
  refine ⟨ok_new 9, signs_new 9, rfl, by simp [TS.new], fun x hx => ?_, by simp [TS.new], by simp [TS.new], by simp [TS.new], by simp [TS.new]⟩
  have hm : (TS.new 9).ms.length = 10 := rfl
  rw [value9 hm hx]
  have hx2 := hx.abs
  have : (TS.new 9).mark (absI x) = (0, 0, 0) := by
    unfold TS.mark TS.new
    simp only [List.getD_eq_getElem?_getD, List.getElem?_replicate]
    split <;> rfl
  rw [this]
  simp [TS.new]
theorem put_value {t : TS} (hm : t.ms.length = 10) {x y : Int} (r : Int) (hx : lit9 x) (hy : lit9 y) :
    (t.put x r).value y = if y = x then 1 else if y = -x then -1 else t.value y := by
  have hm' : (t.put x r).ms.length = 10 := (put_ms_len t x r).trans hm
  rw [value9 hm' hy, put_mark hm r hx hy]
  by_cases e : absI y = absI x
  · rw [if_pos e]
    rcases sign_abs e.symm hx.1 with ⟨e1, e2⟩ | ⟨e1, e2⟩
    · rw [if_pos e2.symm]; exact e1
    · have := hx.1
      rw [if_neg (by omega), if_pos (by omega)]; exact e1
  · rw [if_neg e, if_neg (fun h => e (by rw [h])), if_neg (fun h => e (by rw [h, absI_neg])), value9 hm hy]
theorem TI.put {t : TS} (h : TI t) {x : Int} (r : Int) (hx : lit9 x) (hf : t.value x = 0) : TI (t.put x r) := by
  have hm' : (t.put x r).ms.length = 10 := (put_ms_len t x r).trans h.ms
  have hfr := (free9 h.ms hx).2 hf
  have hnx : x ∉ t.l := fun hm => by have := (h.val x hx).2 hm; omega
  have hnn : -x ∉ t.l := fun hm => by have := (h.m1 hx).2 hm; omega
  have hl : (t.put x r).l = t.l ++ [x] := rfl
  refine ⟨h.ok.put x r hfr (by have := h.len; omega), h.sg.put x r, hm', ?_, fun y hy => ?_, ?_, ?_, h.lvs, fun p hp => ?_⟩
  · rw [hl]; intro y hy
    rcases List.mem_append.1 hy with hy | hy
    · exact h.li y hy
    · rw [List.mem_singleton.1 hy]; exact hx
  · rw [put_value h.ms r hx hy, hl, List.mem_append, List.mem_singleton]
    by_cases e : y = x
    · rw [if_pos e]; simp [e]
    · rw [if_neg e]
      by_cases e2 : y = -x
      · rw [if_pos e2]; simp [e2, hnn]; have := hx.1; omega
      · rw [if_neg e2, h.val y hy]; simp [e]
  · rw [hl, List.nodup_append]
    refine ⟨h.nd, by simp, fun a ha b hb => ?_⟩
    rw [List.mem_singleton.1 hb]; intro e; rw [e] at ha; exact hnx ha
  · intro y hy
    have hy : y ∈ t.wh ++ [t.now + 1] := hy
    rcases List.mem_append.1 hy with hy | hy
    · exact h.whp y hy
    · rw [List.mem_singleton.1 hy]; have := h.ok.now0; omega
  · rw [hl, List.length_append]; have := h.lvb p hp; simp; omega
theorem TI.up {t : TS} (h : TI t) {x : Int} (r : Int) (hx : lit9 x) (hf : t.value x = 0) : TI (t.up.put x r) := by
  have h1 := h.put r hx hf
  have hfr := (free9 h.ms hx).2 hf
  refine ⟨h.ok.upput x r hfr (by have := h.len; omega), h.sg.up.put x r, by rw [put_ms_len]; exact h.ms, h1.li, fun y hy => ?_, h1.nd, h1.whp, ?_, fun p hp => ?_⟩
  · have e : (t.up.put x r).value y = (t.put x r).value y := by
      rw [put_value h.ms r hx hy]
      exact put_value (t := t.up) h.ms r hx hy
    rw [e]; exact h1.val y hy
  · show (t.lv ++ [(t.l.length : Int)]).Pairwise (· < ·)
    rw [List.pairwise_append]
    refine ⟨h.lvs, by simp, fun a ha b hb => ?_⟩
    rw [List.mem_singleton.1 hb]; exact h.lvb a ha
  · have hp : p ∈ t.lv ++ [(t.l.length : Int)] := hp
    show p < ((t.l ++ [x]).length : Int)
    rw [List.length_append]
    rcases List.mem_append.1 hp with hp | hp
    · have := h.lvb p hp; simp; omega
    · rw [List.mem_singleton.1 hp]; simp; omega
theorem reason9 {t : TS} (hm : t.ms.length = 10) {x : Int} (h : lit9 x) : t.reason (absI x) = if (t.mark (absI x)).1 ≠ 0 then (t.mark (absI x)).2.2 else -1 := by
  have := h.abs
  unfold TS.reason
  have e : t.has (absI x) = true := by unfold TS.has; rw [hm]; exact decide_eq_true (by omega)
  rw [e, Bool.true_and]
  by_cases h : (t.mark (absI x)).1 ≠ 0
  · rw [if_pos (decide_eq_true h), if_pos h]
  · rw [if_neg (by simpa using h), if_neg h]
theorem put_reason {t : TS} (hm : t.ms.length = 10) {x y : Int} (r : Int) (hx : lit9 x) (hy : lit9 y) :
    (t.put x r).reason (absI y) = if absI y = absI x then r else t.reason (absI y) := by
  have hm' : (t.put x r).ms.length = 10 := (put_ms_len t x r).trans hm
  rw [reason9 hm' hy, put_mark hm r hx hy]
  by_cases e : absI y = absI x
  · rw [if_pos e, if_pos e, if_pos]
    rcases signOf_cases x with e | e <;> rw [e] <;> simp
  · rw [if_neg e, if_neg e, reason9 hm hy]
theorem back_l {t : TS} {level : Nat} (h : level < t.lv.length) : (t.back level).l = t.l.take (t.lv.getD level 0).toNat ∧ (t.back level).lv = t.lv.take level ∧ (t.back level).wh = t.wh.take (t.lv.getD level 0).toNat ∧ (t.back level).now = t.now ∧ (t.back level).ms = goneMs t (t.lv.getD level 0).toNat := by
  unfold TS.back; rw [if_neg (by omega)]; exact ⟨rfl, rfl, rfl, rfl, rfl⟩
theorem back_same {t : TS} {level : Nat} (h : t.lv.length ≤ level) : t.back level = t := by unfold TS.back; rw [if_pos h]
/-- What is kept of a trail has its marks. -/
theorem back_mark {t : TS} (h : TI t) {level : Nat} (hl : level < t.lv.length) {y : Int} (hy : lit9 y) :
    (t.back level).mark (absI y) = if y ∈ t.l.drop (t.lv.getD level 0).toNat ∨ -y ∈ t.l.drop (t.lv.getD level 0).toNat then (0, 0, 0) else t.mark (absI y) := by
  unfold TS.mark
  rw [(back_l hl).2.2.2.2]
  unfold goneMs
  have h2 := hy.abs
  have hvar : ∀ z ∈ t.l.drop (t.lv.getD level 0).toNat, varOf z = absI z := fun z hz => varOf9 (h.li z (List.mem_of_mem_drop hz))
  split
  · rename_i hc
    refine cleared t.ms _ _ _ (.inl ?_)
    simp only [List.mem_map, List.mem_reverse]
    rcases hc with hc | hc
    · exact ⟨y, hc, hvar y hc⟩
    · exact ⟨-y, hc, (hvar _ hc).trans (absI_neg y)⟩
  · rename_i hc
    refine clear_kept _ _ _ fun u hu => ?_
    simp only [List.mem_map, List.mem_reverse] at hu
    obtain ⟨z, hz, rfl⟩ := hu
    rw [hvar z hz]
    have h3 := (h.li z (List.mem_of_mem_drop hz)).abs
    intro e
    rcases absI_eq (show absI z = absI y by omega) with e | e
    · rw [e] at hz; exact hc (.inl hz)
    · rw [e] at hz; exact hc (.inr hz)
theorem take_drop_mem {l : List Int} (hn : l.Nodup) {n : Nat} {x : Int} (h1 : x ∈ l.take n) : x ∉ l.drop n := fun h2 => by
  have := hn
  rw [← List.take_append_drop n l, List.nodup_append] at this
  exact this.2.2 x h1 x h2 rfl
theorem TI.back {t : TS} (h : TI t) (level : Nat) : TI (t.back level) := by
  rcases Nat.lt_or_ge level t.lv.length with hl | hl
  · obtain ⟨e1, e2, e3, e4, e5⟩ := back_l hl
    have hm' : (t.back level).ms.length = 10 := by rw [e5, goneMs_len]; exact h.ms
    refine ⟨?_, h.sg.back level, hm', fun x hx => ?_, fun x hx => ?_, ?_, ?_, ?_, fun p hp => ?_⟩
    · refine ⟨fun x hx => ?_, fun p hp => ?_, ?_, ?_, ?_, ?_⟩
      · rw [e1] at hx
        exact has9 hm' (h.li x (List.mem_of_mem_take hx))
      · rw [e2] at hp
        rw [e1, List.length_take]
        have := h.ok.lev p (List.mem_of_mem_take hp)
        have := h.lv_lt hl hp
        omega
      · rw [e1, e3, List.length_take, List.length_take, h.ok.wh]
      · rw [e1, e2, List.length_take, List.length_take]
        have := h.lv_ge level hl
        have := h.ok.lvl
        omega
      · rw [e1, List.length_take]; have := h.ok.small; omega
      · rw [e4]; exact h.ok.now0
    · rw [e1] at hx; exact h.li x (List.mem_of_mem_take hx)
    · rw [value9 hm' hx, back_mark h hl hx, e1]
      have hta : x ∈ t.l.take (t.lv.getD level 0).toNat ∨ x ∈ t.l.drop (t.lv.getD level 0).toNat ↔ x ∈ t.l := by
        rw [← List.mem_append, List.take_append_drop]
      split
      · rename_i hc
        simp only [Int.zero_mul]
        refine ⟨fun h => absurd h (by omega), fun hm => ?_⟩
        rcases hc with hc | hc
        · exact absurd hc (take_drop_mem h.nd hm)
        · exact absurd (List.mem_of_mem_drop hc) (h.cons (List.mem_of_mem_take hm))
      · rename_i hc
        rw [← value9 h.ms hx, h.val x hx, ← hta]
        exact ⟨fun h => h.resolve_right (fun h => hc (.inl h)), .inl⟩
    · rw [e1]; exact h.nd.sublist (List.take_sublist _ _)
    · rw [e3]; exact fun y hy => h.whp y (List.mem_of_mem_take hy)
    · rw [e2]; exact h.lvs.sublist (List.take_sublist _ _)
    · rw [e2] at hp
      rw [e1, List.length_take]
      have := h.lvb p (List.mem_of_mem_take hp)
      have := h.lv_lt hl hp
      omega
  · rw [back_same hl]; exact h
theorem back_reason {t : TS} (h : TI t) {level : Nat} (hl : level < t.lv.length) {x : Int} (hx : x ∈ (t.back level).l) : (t.back level).reason (absI x) = t.reason (absI x) := by
  obtain ⟨e1, e2, e3, e4, e5⟩ := back_l hl
  have hm' : (t.back level).ms.length = 10 := (h.back level).ms
  rw [e1] at hx
  have hx9 := h.li x (List.mem_of_mem_take hx)
  suffices hno : ¬ (x ∈ t.l.drop (t.lv.getD level 0).toNat ∨ -x ∈ t.l.drop (t.lv.getD level 0).toNat) by
    rw [reason9 hm' hx9, back_mark h hl hx9, if_neg hno, reason9 h.ms hx9]
  rintro (hc | hc)
  · exact take_drop_mem h.nd hx hc
  · exact h.cons (List.mem_of_mem_take hx) (List.mem_of_mem_drop hc)
end Go.Proofs.Ytghlgegfokjgbaa
