/-
  Package watch, PLAIN: what adding a clause keeps, ahead of every decision.
-/
import Derived.Test.YtkaklgjdmlddmaaWaT
namespace Go.Proofs.Ytkaklgjdmlddmaa
open Go.ChangeShapes Go.WideShapes Go.ChangeAt Go.RowKit
set_option linter.unusedVariables false
set_option linter.unusedSimpArgs false
theorem value_sg {t : TS} (h : Signs t) (x : Int) : -1 ≤ t.value x ∧ t.value x ≤ 1 := by
  unfold TS.value
  have := mark_sg h (varOf x)
  split
  · rcases signOf_cases x with e | e <;> rw [e] <;> omega
  · omega
theorem stepF_ok {t : TS} (hs : Signs t) {c : List Int} {i k : Nat} (hik : i < k) (hk : k < c.length) :
    (stepF t i c k).Perm c ∧ (∀ j, j < i → (stepF t i c k).getD j 0 = c.getD j 0) ∧ t.value ((stepF t i c k).getD k 0) ≤ t.value ((stepF t i c k).getD i 0) ∧ t.value (c.getD i 0) ≤ t.value ((stepF t i c k).getD i 0) ∧
    ∀ j, i < j → j ≠ k → (stepF t i c k).getD j 0 = c.getD j 0 := by
  have h1 := value_sg hs (c.getD i 0)
  have h2 := value_sg hs (c.getD k 0)
  unfold stepF
  by_cases hb : bet t (c.getD k 0) (c.getD i 0) = true
  · rw [if_pos hb, sw_i (by omega) hk (by omega), sw_k hk]
    have : t.value (c.getD i 0) ≤ t.value (c.getD k 0) := by
      unfold bet at hb
      split at hb
      · omega
      · have := of_decide_eq_true hb; omega
    exact ⟨sw_perm (by omega) hk, fun j hj => sw_o (by omega) (by omega), this, this, fun j h1 h2 => sw_o (by omega) (by omega)⟩
  · rw [if_neg hb]
    refine ⟨.refl _, fun _ _ => rfl, ?_, Int.le_refl _, fun _ _ _ => rfl⟩
    unfold bet at hb
    split at hb
    · omega
    · have := of_decide_eq_false (Bool.not_eq_true _ ▸ hb); omega
theorem innF_ok {t : TS} (hs : Signs t) {c : List Int} {i : Nat} (hi : i < c.length) : ∀ m, i + 1 + m ≤ c.length →
    (innF t i c (i + 1 + m)).Perm c ∧ (∀ j, j < i → (innF t i c (i + 1 + m)).getD j 0 = c.getD j 0) ∧ ∀ j, i < j → j < i + 1 + m → t.value ((innF t i c (i + 1 + m)).getD j 0) ≤ t.value ((innF t i c (i + 1 + m)).getD i 0)
  | 0, _ => by
    rw [Nat.add_zero, innF_start]
    exact ⟨.refl _, fun _ _ => rfl, fun j h1 h2 => by omega⟩
  | m + 1, hm => by
    obtain ⟨p1, p2, p3⟩ := innF_ok hs hi m (by omega)
    rw [show i + 1 + (m + 1) = (i + 1 + m) + 1 by omega, innF_step t i c (i + 1 + m) (by omega)]
    obtain ⟨q1, q2, q3, q4, q5⟩ := stepF_ok hs (c := innF t i c (i + 1 + m)) (i := i) (k := i + 1 + m) (by omega) (by rw [innF_len]; omega)
    refine ⟨q1.trans p1, fun j hj => (q2 j hj).trans (p2 j hj), fun j h1 h2 => ?_⟩
    rcases (show j < i + 1 + m ∨ j = i + 1 + m by omega) with h | rfl
    · rw [q5 j h1 (by omega)]; have := p3 j h1 h; omega
    · exact q3
theorem innF_all {t : TS} (hs : Signs t) {c : List Int} {i : Nat} (hi : i < c.length) :
    (innF t i c c.length).Perm c ∧ (∀ j, j < i → (innF t i c c.length).getD j 0 = c.getD j 0) ∧ ∀ j, i < j → j < c.length → t.value ((innF t i c c.length).getD j 0) ≤ t.value ((innF t i c c.length).getD i 0) := by
  have := innF_ok hs hi (c.length - (i + 1)) (by omega)
  rwa [show i + 1 + (c.length - (i + 1)) = c.length by omega] at this
/-- The two best ones stand first. -/
theorem first_ok {t : TS} (hs : Signs t) {c : List Int} (hc : c ≠ []) : (firF t c (min 2 c.length)).Perm c ∧ (∀ y ∈ firF t c (min 2 c.length), t.value y ≤ t.value ((firF t c (min 2 c.length)).getD 0 0)) ∧
    ∀ j, 1 ≤ j → j < c.length → t.value ((firF t c (min 2 c.length)).getD j 0) ≤ t.value ((firF t c (min 2 c.length)).getD 1 0) := by
  have h0 := List.length_pos_iff.2 hc
  obtain ⟨p1, p2, p3⟩ := innF_all hs (c := c) (i := 0) h0
  have e1 : firF t c 1 = innF t 0 c c.length := by rw [firF_step]; rfl
  obtain ⟨c1, hc1⟩ : ∃ c1, c1 = innF t 0 c c.length := ⟨_, rfl⟩
  rw [← hc1] at p1 p2 p3 e1
  have all1 : ∀ y ∈ c1, t.value y ≤ t.value (c1.getD 0 0) := fun y hy => by
    obtain ⟨j, hj, rfl⟩ := List.getElem_of_mem hy
    rw [← getD_mem' hj]
    rcases Nat.eq_zero_or_pos j with e | e
    · rw [e]; exact Int.le_refl _
    · exact p3 j e (by rw [← p1.length_eq]; exact hj)
  rcases (show c.length = 1 ∨ 2 ≤ c.length by omega) with h1 | h2
  · rw [show min 2 c.length = 1 by omega, e1]
    exact ⟨p1, all1, fun j h1 h2 => by omega⟩
  · rw [show min 2 c.length = 1 + 1 by omega, firF_step, e1]
    have hl := p1.length_eq
    obtain ⟨q1, q2, q3⟩ := innF_all hs (c := c1) (i := 1) (by omega)
    rw [hl] at q1 q2 q3
    refine ⟨q1.trans p1, fun y hy => ?_, fun j h1 h2 => ?_⟩
    · rw [q2 0 (by omega)]; exact all1 y (q1.mem_iff.1 hy)
    · rcases (show j = 1 ∨ 1 < j by omega) with rfl | h
      · exact Int.le_refl _
      · exact q3 j h h2
/-- A watch that clauses are added to. -/
structure AInv (og : List (List Int)) (N : Nat) (S : WS) : Prop where
  inv : Inv og og (fun _ => False) N S
  lv : S.t.lv = []
  dn : S.dn = []
  bm : -1 ≤ S.bk
  br : 0 ≤ S.bk → ∃ k : Nat, S.bk = (k : Int) ∧ k < og.length ∧ ∀ y ∈ og.getD k [], -y ∈ S.t.l
theorem AInv.new : AInv [] 0 (wNew (TS.new 9)) := by
  refine ⟨⟨⟨TI.new, by simp, fun k hk => by simp at hk, fun k hk => by simp at hk, rfl, fun k hk => by simp at hk, by simp [wNew], fun s => by simp [wNew], by simp [wNew, TS.new], by omega, by simp [wNew], fun j hj => by simp [wNew] at hj, fun hb k hl => by simp [wNew] at hl, fun k p hp => by simp [wNew] at hp, fun e he => by simp [wNew, TS.new] at he, fun i hi => by simp [wNew, TS.new] at hi, fun x hx => by simp [wNew, TS.new] at hx⟩, fun x hx => ⟨by simp [wNew], fun id => ?_⟩⟩, rfl, rfl, by simp [wNew], fun h => by simp [wNew] at h⟩
  constructor
  · intro h; simp [wNew] at h
  · rintro ⟨k, rfl, hk⟩
    have := hx.1
    unfold Wat at hk; simp [wNew] at hk; omega
theorem getD_app_l {α : Type} (l : List α) (x d : α) {k : Nat} (h : k < l.length) : (l ++ [x]).getD k d = l.getD k d := by simp [List.getD, List.getElem?_append_left h]
theorem getD_app_n {α : Type} (l : List α) (x d : α) : (l ++ [x]).getD l.length d = x := by simp [List.getD]
theorem putF_at (id : Int) (x : Int) (hx : lit3 x) : ∀ (d : List Int), (∀ y ∈ d, lit3 y) → d.Nodup → ∀ ls : List (List Int), (d.foldl (fun ls l => putL ls (slotN l) id) ls).getD (slotN x) [] = if x ∈ d then ls.getD (slotN x) [] ++ [id] else ls.getD (slotN x) []
  | [], _, _, ls => by simp
  | y :: d, hd, hn, ls => by
    rw [List.nodup_cons] at hn
    rw [List.foldl_cons, putF_at id x hx d (fun y hy => hd y (List.mem_cons_of_mem _ hy)) hn.2, putL_at]
    have hy3 := hd y List.mem_cons_self
    by_cases e : x = y
    · subst e
      rw [if_neg hn.1, if_pos rfl, if_pos List.mem_cons_self]
    · rw [if_neg (fun hs => e (slotN_inj hx hy3 hs))]
      simp [e]
theorem putF_no (id : Int) (s : Nat) : ∀ (d : List Int), (∀ y ∈ d, slotN y ≠ s) → ∀ ls : List (List Int), (d.foldl (fun ls l => putL ls (slotN l) id) ls).getD s [] = ls.getD s []
  | [], _, ls => rfl
  | y :: d, hd, ls => by
    rw [List.foldl_cons, putF_no id s d (fun y hy => hd y (List.mem_cons_of_mem _ hy)), putL_at, if_neg (Ne.symm (hd y List.mem_cons_self))]
theorem putF_len (id : Int) : ∀ (d : List Int), (∀ y ∈ d, lit9 y) → ∀ ls : List (List Int), ls.length ≤ 20 → (d.foldl (fun ls l => putL ls (slotN l) id) ls).length ≤ 20
  | [], _, ls, h => h
  | y :: d, hd, ls, h => by
    rw [List.foldl_cons]
    refine putF_len id d (fun y hy => hd y (List.mem_cons_of_mem _ hy)) _ ?_
    rw [putL_len]; have := slotN9 (hd y List.mem_cons_self); omega
theorem impT_cases (t : TS) (x r : Int) : (impT t x r = t ∧ t.isFree x = false) ∨ (impT t x r = t.put x r ∧ t.isFree x = true) := by
  unfold impT
  cases h : t.isFree x
  · exact .inl ⟨if_neg (by simp), rfl⟩
  · exact .inr ⟨if_pos rfl, rfl⟩
theorem AInv.add {og : List (List Int)} {N : Nat} {S : WS} (h : AInv og N S) {c : List Int} (hc : C9 c) (hog : og.length < 80) : AInv (og ++ [c]) N (addF S c) := by
  obtain ⟨⟨h, h2⟩, hlv, hdn, hbm, hbr⟩ := h
  have hb0 : ∀ y, y ∈ S.t.l → Base S.t y := fun y hy => by
    obtain ⟨q, hq, rfl⟩ := List.getElem_of_mem hy
    exact ⟨q, hq, getD_mem' hq, fun e he => by rw [hlv] at he; simp at he⟩
  obtain ⟨p1, p2, p3⟩ := first_ok h.ti.sg hc.ne
  obtain ⟨c', hc'⟩ : ∃ c', c' = firF S.t c (min 2 c.length) := ⟨_, rfl⟩
  unfold addF
  simp only
  rw [← hc'] at p1 p2 p3 ⊢
  have hlen := p1.length_eq
  have h0 := List.length_pos_iff.2 hc.ne
  have c9 : C9 c' := ⟨fun e => by rw [e] at hlen; simp at hlen; omega, fun x hx => hc.li x (p1.mem_iff.1 hx), p1.nodup_iff.2 hc.nd, fun x hx hn => hc.cons x (p1.mem_iff.1 hx) (p1.mem_iff.1 hn), by rw [hlen]; exact hc.len⟩
  obtain ⟨n, hn⟩ : ∃ n, n = S.cl.length := ⟨_, rfl⟩
  have hno : n = og.length := by rw [hn, h.cn]
  rw [← hn]
  have hcl : ∀ k, (S.cl ++ [c']).getD k [] = if k = n then c' else S.cl.getD k [] := fun k => by
    by_cases e : k = n
    · rw [if_pos e, e, hn, getD_app_n]
    · rw [if_neg e]
      rcases Nat.lt_or_ge k n with h | h
      · exact getD_app_l _ _ _ (by omega)
      · rw [getD_nil_of (by simp; omega), getD_nil_of (by omega)]
  have hogk : ∀ k, k < og.length → (og ++ [c]).getD k [] = og.getD k [] := fun k hk => getD_app_l _ _ _ hk
  have hogn : (og ++ [c]).getD n [] = c := by rw [hno, getD_app_n]
  have h0c : c'.getD 0 0 ∈ c' := mem_getD (by omega)
  have h09 := c9.li _ h0c
  -- who watches
  have d3 : ∀ y ∈ c'.take 2, lit9 y := fun y hy => c9.li y (List.mem_of_mem_take hy)
  have hls : ∀ x, lit9 x → (watchL S.ls c' n 2).getD (slotN x) [] = if x ∈ c'.take 2 then S.ls.getD (slotN x) [] ++ [(n : Int)] else S.ls.getD (slotN x) [] := fun x hx => by
    unfold watchL
    exact putF_at _ _ hx.l3 _ (fun y hy => (d3 y hy).l3) (c9.nd.sublist (List.take_sublist _ _)) _
  have hwi : ∀ x, lit9 x → WI (S.cl ++ [c']) x ((watchL S.ls c' n 2).getD (slotN x) []) := fun x hx => by
    have hw := h2 x hx
    have hwat : ∀ k, Wat (S.cl ++ [c']) x k ↔ if k = n then x ∈ c'.take 2 else Wat S.cl x k := fun k => by
      unfold Wat
      rw [hcl]
      split
      · exact (mem_take2 hx.1).symm
      · exact Iff.rfl
    have hlt : ∀ k, Wat S.cl x k → k ≠ n := fun k hk e => by have := hk.lt hx.1; omega
    rw [hls x hx]
    by_cases hm : x ∈ c'.take 2
    · rw [if_pos hm]
      refine ⟨?_, fun id => ?_⟩
      · rw [List.nodup_append]
        refine ⟨hw.1, by simp, fun a ha b hb => ?_⟩
        rw [List.mem_singleton.1 hb]
        rintro rfl
        obtain ⟨k, e, hk⟩ := (hw.2 _).1 ha
        exact hlt k hk (by omega)
      · rw [List.mem_append, hw.2, List.mem_singleton]
        constructor
        · rintro (⟨k, rfl, hk⟩ | rfl)
          · exact ⟨k, rfl, (hwat k).2 (by rw [if_neg (hlt k hk)]; exact hk)⟩
          · exact ⟨n, rfl, (hwat n).2 (by rw [if_pos rfl]; exact hm)⟩
        · rintro ⟨k, rfl, hk⟩
          rw [hwat] at hk
          by_cases e : k = n
          · exact .inr (by rw [e])
          · rw [if_neg e] at hk; exact .inl ⟨k, rfl, hk⟩
    · rw [if_neg hm]
      refine ⟨hw.1, fun id => ?_⟩
      rw [hw.2]
      constructor
      · rintro ⟨k, rfl, hk⟩
        exact ⟨k, rfl, (hwat k).2 (by rw [if_neg (hlt k hk)]; exact hk)⟩
      · rintro ⟨k, rfl, hk⟩
        rw [hwat] at hk
        by_cases e : k = n
        · rw [if_pos e] at hk; exact absurd hk hm
        · rw [if_neg e] at hk; exact ⟨k, rfl, hk⟩
  have hln : (watchL S.ls c' n 2).length ≤ 20 := putF_len _ _ d3 _ h.ln
  have hlb : ∀ s, ((watchL S.ls c' n 2).getD s []).length ≤ 80 := fun s => by
    by_cases e : ∃ y ∈ c'.take 2, slotN y = s
    · obtain ⟨y, hy, rfl⟩ := e
      have := (hwi y (d3 y hy)).len (d3 y hy).1
      rw [List.length_append, List.length_singleton] at this
      omega
    · unfold watchL
      rw [putF_no _ _ _ (fun y hy e2 => e ⟨y, hy, e2⟩)]
      exact h.lb s
  -- the watch, but for what is told
  have i1 : Inv0 (og ++ [c]) (og ++ [c]) (fun _ => False) N { t := S.t, cl := S.cl ++ [c'], ls := watchL S.ls c' n 2, dn := S.dn, bk := 0 } := by
    refine ⟨h.ti, by simp; omega, fun k hk => ?_, fun k hk => .inr rfl, by simp [h.cn], fun k hk => ?_, hln, hlb, h.n1, h.nb, h.dl, h.dw, fun hb => absurd hb (by simp), fun k p hp => ?_, h.un, fun i hi hr => ?_, h.de⟩
    · rw [List.length_append] at hk; simp at hk
      rcases Nat.lt_or_ge k og.length with hk2 | hk2
      · rw [hogk k hk2]; exact h.og9 k hk2
      · obtain rfl : k = n := by omega
        rw [hogn]; exact hc
    · rw [List.length_append] at hk; simp at hk
      show ((S.cl ++ [c']).getD k []).Perm _
      rw [hcl]
      split
      · rename_i e; subst e; rw [hogn]; exact p1
      · rw [hogk k (by omega)]; exact h.cp k (by omega)
    · rw [hdn] at hp; simp at hp
    · obtain ⟨k, g1, g2, g3, g4⟩ := h.fo i hi hr
      exact ⟨k, g1, by simp; omega, by rw [hogk k g2]; exact g3, by rw [hogk k g2]; exact g4⟩
  obtain ⟨t', ht'⟩ : ∃ t', t' = (if S.t.value (c'.getD 0 0) = 0 ∧ (c.length = 1 ∨ S.t.value (c'.getD 1 0) < 0) then impT S.t (c'.getD 0 0) (n : Int) else S.t) := ⟨_, rfl⟩
  rw [← ht']
  have i2 : Inv0 (og ++ [c]) (og ++ [c]) (fun _ => False) N { t := t', cl := S.cl ++ [c'], ls := watchL S.ls c' n 2, dn := S.dn, bk := 0 } ∧ t'.lv = [] ∧ (∀ y, y ∈ S.t.l → y ∈ t'.l) ∧ (c.length = 1 → S.t.value (c'.getD 0 0) = 0 → c'.getD 0 0 ∈ t'.l) := by
    rw [ht']
    split
    · rename_i hif
      obtain ⟨hv0, hv1⟩ := hif
      have hfr := (free9 h.ti.ms h09).2 hv0
      have e : impT S.t (c'.getD 0 0) n = S.t.put (c'.getD 0 0) n := by unfold impT; rw [if_pos hfr]
      rw [e]
      refine ⟨i1.put (k := n) (by simp; omega) (by rw [hogn]; exact p1.mem_iff.1 h0c) hv0 (fun y hy hne => ?_), hlv, fun y hy => List.mem_append_left _ hy, fun _ _ => ?_⟩
      · rw [hogn] at hy
        obtain ⟨j, hj, rfl⟩ := List.getElem_of_mem (p1.mem_iff.2 hy)
        have hm : c'[j] ∈ c' := List.getElem_mem hj
        refine (h.ti.lt0 (c9.li _ hm)).1 ?_
        rw [← getD_mem' hj] at hne ⊢
        have hj0 : j ≠ 0 := fun e => hne (by rw [e])
        rcases hv1 with e | e
        · omega
        · have := p3 j (by omega) (by omega); omega
      · show _ ∈ S.t.l ++ [_]; simp
    · rename_i hif
      exact ⟨i1, hlv, fun y hy => hy, fun hl hv => absurd ⟨hv, .inl hl⟩ hif⟩
  obtain ⟨i2, lv2, sub2, one2⟩ := i2
  have hb2 : ∀ y, y ∈ t'.l → Base t' y := fun y hy => by
    obtain ⟨q, hq, rfl⟩ := List.getElem_of_mem hy
    exact ⟨q, hq, getD_mem' hq, fun e he => by rw [lv2] at he; simp at he⟩
  refine ⟨⟨⟨i2.ti, i2.on, i2.og9, i2.lo, i2.cn, i2.cp, i2.ln, i2.lb, i2.n1, i2.nb, i2.dl, i2.dw, fun hb k hl => ?_, i2.pr, i2.un, i2.fo, i2.de⟩, hwi⟩, lv2, hdn, ?_, fun hb => ?_⟩
  · have hb : (if S.t.value (c'.getD 0 0) < 0 then (n : Int) else S.bk) < 0 := hb
    revert hl
    show ((S.cl ++ [c']).getD k []).length = 1 → Base t' (((S.cl ++ [c']).getD k []).getD 0 0)
    rw [hcl]
    by_cases hv : S.t.value (c'.getD 0 0) < 0
    · rw [if_pos hv] at hb; omega
    · rw [if_neg hv] at hb
      split
      · intro hl
        refine hb2 _ ?_
        rcases value_cases h.ti.ms h.ti.sg h09 with e | e | e
        · exact sub2 _ ((h.ti.val _ h09).1 e)
        · exact one2 (by omega) e
        · omega
      · intro hl
        exact hb2 _ (sub2 _ (h.one hb k hl).mem)
  · show -1 ≤ (if S.t.value (c'.getD 0 0) < 0 then (n : Int) else S.bk)
    split
    · omega
    · exact hbm
  · revert hb
    show 0 ≤ (if S.t.value (c'.getD 0 0) < 0 then (n : Int) else S.bk) → ∃ k : Nat, (if S.t.value (c'.getD 0 0) < 0 then (n : Int) else S.bk) = (k : Int) ∧ k < (og ++ [c]).length ∧ ∀ y ∈ (og ++ [c]).getD k [], -y ∈ t'.l
    split
    · rename_i hv
      intro _
      refine ⟨n, rfl, by simp; omega, fun y hy => ?_⟩
      rw [hogn] at hy
      have := p2 y (p1.mem_iff.2 hy)
      exact sub2 _ ((h.ti.lt0 (hc.li y hy)).1 (by omega))
    · intro hb
      obtain ⟨k, g1, g2, g3⟩ := hbr hb
      exact ⟨k, g1, by simp; omega, fun y hy => by rw [hogk k g2] at hy; exact sub2 _ (g3 y hy)⟩
end Go.Proofs.Ytkaklgjdmlddmaa
