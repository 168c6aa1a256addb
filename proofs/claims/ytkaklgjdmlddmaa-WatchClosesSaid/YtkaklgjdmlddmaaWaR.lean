/-
  Package watch, PLAIN: a clause that is visited: what a Run keeps.
-/
import Derived.Test.YtkaklgjdmlddmaaWaQ
namespace Go.Proofs.Ytkaklgjdmlddmaa
open Go.ChangeShapes Go.WideShapes Go.ChangeAt Go.RowKit
set_option linter.unusedVariables false
set_option linter.unusedSimpArgs false
theorem sw_perm {c : List Int} {i k : Nat} (hi : i < c.length) (hk : k < c.length) : (sw c i k).Perm c := by
  unfold sw; rw [getD_mem' hi, getD_mem' hk]; exact List.set_set_perm hi hk
theorem gset_self {l : List Int} {j : Nat} (x : Int) (h : j < l.length) : (l.set j x).getD j 0 = x := getD_set_self _ _ _ _ h
theorem gset_ne {l : List Int} {j k : Nat} (x : Int) (h : j ≠ k) : (l.set j x).getD k 0 = l.getD k 0 := getD_set_ne _ _ _ _ _ h
theorem sw_i {c : List Int} {i k : Nat} (hi : i < c.length) (hk : k < c.length) (h : i ≠ k) : (sw c i k).getD i 0 = c.getD k 0 := by
  unfold sw; rw [gset_ne _ (Ne.symm h), gset_self _ hi]
theorem sw_k {c : List Int} {i k : Nat} (hk : k < c.length) : (sw c i k).getD k 0 = c.getD i 0 := by
  unfold sw; rw [gset_self _ (by rw [List.length_set]; exact hk)]
theorem sw_o {c : List Int} {i k j : Nat} (hi : i ≠ j) (hk : k ≠ j) : (sw c i k).getD j 0 = c.getD j 0 := by
  unfold sw; rw [gset_ne _ hk, gset_ne _ hi]
theorem putL_at (ls : List (List Int)) (s : Nat) (id : Int) (s' : Nat) : (putL ls s id).getD s' [] = if s' = s then ls.getD s [] ++ [id] else ls.getD s' [] := by
  have hp : ∀ s', (padL ls s).getD s' [] = ls.getD s' [] := fun s' => by
    unfold padL
    rcases Nat.lt_or_ge s' ls.length with h | h
    · simp [List.getD, List.getElem?_append_left h]
    · rw [getD_nil_of h]
      simp only [List.getD, List.getElem?_append_right h, List.getElem?_replicate]
      split <;> rfl
  unfold putL
  by_cases e : s' = s
  · subst e
    rw [if_pos rfl, getD_set_self _ _ _ _ (by rw [padL_len]; omega), hp]
  · rw [if_neg e, getD_set_ne _ _ _ _ _ (Ne.symm e), hp]
theorem putL_len (ls : List (List Int)) (s : Nat) (id : Int) : (putL ls s id).length = max ls.length (s + 1) := by unfold putL; rw [List.length_set, padL_len]
theorem slotN9 {x : Int} (h : lit9 x) : slotN x ≤ 19 := by unfold slotN slotI; unfold lit9 at h; split <;> omega
theorem WI.congr {cl cl' : List (List Int)} {x : Int} {L : List Int} (h : WI cl x L) (he : ∀ k, Wat cl' x k ↔ Wat cl x k) : WI cl' x L :=
  ⟨h.1, fun id => by rw [h.2 id]; exact exists_congr fun k => and_congr_right fun _ => (he k).symm⟩
theorem set_at (cl : List (List Int)) (k : Nat) (c : List Int) (hk : k < cl.length) (k' : Nat) : (cl.set k c).getD k' [] = if k' = k then c else cl.getD k' [] := by
  by_cases e : k' = k
  · subst e; rw [if_pos rfl, getD_set_self _ _ _ _ hk]
  · rw [if_neg e, getD_set_ne _ _ _ _ _ (Ne.symm e)]
theorem wat_set {cl : List (List Int)} {k : Nat} {c : List Int} (hk : k < cl.length) (x : Int) (k' : Nat) : Wat (cl.set k c) x k' ↔ if k' = k then c.getD 0 0 = x ∨ c.getD 1 0 = x else Wat cl x k' := by
  unfold Wat
  rw [set_at _ _ _ hk]
  by_cases e : k' = k
  · rw [if_pos e, if_pos e]
  · rw [if_neg e, if_neg e]
theorem Inv0.setCl {og lc : List (List Int)} {D : Int → Prop} {N : Nat} {S : WS} (h : Inv0 og lc D N S) {k : Nat} {c : List Int} {ls : List (List Int)} (hk : k < S.cl.length) (hp : c.Perm (S.cl.getD k [])) (h2 : 2 ≤ c.length)
    (hpr : ∀ p, p < S.dn.length → (c.getD 0 0 = -(S.t.l.getD p 0) → Tru S.t (c.getD 1 0) p) ∧ (c.getD 1 0 = -(S.t.l.getD p 0) → Tru S.t (c.getD 0 0) p)) (hln : ls.length ≤ 20) (hlb : ∀ s, (ls.getD s []).length ≤ 80) :
    Inv0 og lc D N { S with cl := S.cl.set k c, ls := ls } := by
  refine ⟨h.ti, h.on, h.og9, h.lo, by rw [List.length_set]; exact h.cn, fun k' hk' => ?_, hln, hlb, h.n1, h.nb, h.dl, h.dw, fun hb k' hl => ?_, fun k' p hpl => ?_, h.un, h.fo, h.de⟩
  · show ((S.cl.set k c).getD k' []).Perm _
    rw [set_at _ _ _ hk]
    split
    · rename_i e; subst e; exact hp.trans (h.cp _ hk')
    · exact h.cp k' hk'
  · revert hl
    show ((S.cl.set k c).getD k' []).length = 1 → Base S.t (((S.cl.set k c).getD k' []).getD 0 0)
    rw [set_at _ _ _ hk]
    split
    · intro hl; omega
    · exact h.one hb k'
  · show (((S.cl.set k c).getD k' []).getD 0 0 = _ → Tru S.t (((S.cl.set k c).getD k' []).getD 1 0) p) ∧ (((S.cl.set k c).getD k' []).getD 1 0 = _ → Tru S.t (((S.cl.set k c).getD k' []).getD 0 0) p)
    rw [set_at _ _ _ hk]
    split
    · exact hpr p hpl
    · exact h.pr k' p hpl
theorem Inv0.put {og lc : List (List Int)} {D : Int → Prop} {N : Nat} {S : WS} (h : Inv0 og lc D N S) {x : Int} {k : Nat} (hk : k < og.length) (hx : x ∈ og.getD k []) (hf : S.t.value x = 0) (ho : ∀ y ∈ og.getD k [], y ≠ x → -y ∈ S.t.l) :
    Inv0 og lc D N { S with t := S.t.put x k } := by
  have hx9 := (h.og9 k hk).li x hx
  have hti := h.ti.put k hx9 hf
  have hl : (S.t.put x k).l = S.t.l ++ [x] := rfl
  have hnx : x ∉ S.t.l := fun hm => by have := (h.ti.val x hx9).2 hm; omega
  have hnn : -x ∉ S.t.l := fun hm => by have := (h.ti.m1 hx9).2 hm; omega
  have old : ∀ q, q < S.t.l.length → (S.t.l ++ [x]).getD q 0 = S.t.l.getD q 0 := fun q hq => by simp [List.getD, List.getElem?_append_left hq]
  have htru : ∀ y p, Tru S.t y p → Tru (S.t.put x k) y p := fun y p ⟨q, h1, h2, h3⟩ => ⟨q, by rw [hl, List.length_append]; omega, by rw [hl, old q h1]; exact h2, h3⟩
  refine ⟨hti, h.on, h.og9, h.lo, h.cn, h.cp, h.ln, h.lb, ?_, h.nb, by have := h.dl; show S.dn.length ≤ (S.t.l ++ [x]).length; rw [List.length_append]; omega, fun j hj => ?_, fun hb k' hl' => ?_, fun k' p hp => ?_, fun e he i hi1 hi2 => ?_, fun i hi hr => ?_, fun y hy hr => ?_⟩
  · have := h.n1
    show S.t.now + 1 ≤ (N : Int) + ((S.t.l ++ [x]).length : Int)
    rw [List.length_append]; simp; omega
  · show S.dn.getD j 0 = (S.t.wh ++ [S.t.now + 1]).getD j 0
    have hj : j < S.dn.length := hj
    have h1 : j < S.t.wh.length := by rw [h.ti.ok.wh]; exact Nat.lt_of_lt_of_le hj h.dl
    rw [h.dw j hj]; simp [List.getD, List.getElem?_append_left h1]
  · obtain ⟨q, h1, h2, h3⟩ := h.one hb k' hl'
    exact ⟨q, by rw [hl, List.length_append]; omega, by rw [hl, old q h1]; exact h2, h3⟩
  · have hp : p < S.dn.length := hp
    have h1 := Nat.lt_of_lt_of_le hp h.dl
    show ((S.cl.getD k' []).getD 0 0 = -((S.t.l ++ [x]).getD p 0) → _) ∧ ((S.cl.getD k' []).getD 1 0 = -((S.t.l ++ [x]).getD p 0) → _)
    rw [old p h1]
    exact ⟨fun e => htru _ _ ((h.pr k' p hp).1 e), fun e => htru _ _ ((h.pr k' p hp).2 e)⟩
  · have hi2 : i < (S.t.l ++ [x]).length := hi2
    rw [List.length_append] at hi2
    rcases Nat.lt_or_ge i S.t.l.length with h1 | h1
    · exact h.un e he i hi1 h1
    · have := h.ti.lvb e he; omega
  · have hi : i < (S.t.l ++ [x]).length := hi
    rw [List.length_append] at hi
    rcases Nat.lt_or_ge i S.t.l.length with h1 | h1
    · have hm := mem_getD h1
      have hm9 := h.ti.li _ hm
      have hne : ¬ absI (S.t.l.getD i 0) = absI x := fun e => by
        rcases absI_eq e with e | e
        · rw [e] at hm; exact hnx hm
        · rw [e] at hm; exact hnn hm
      have e0 : (S.t.put x k).l.getD i 0 = S.t.l.getD i 0 := old i h1
      have e1 : (S.t.put x k).reason (absI (S.t.l.getD i 0)) = S.t.reason (absI (S.t.l.getD i 0)) := by rw [put_reason h.ti.ms k hx9 hm9, if_neg hne]
      have hr : 0 ≤ (S.t.put x k).reason (absI ((S.t.put x k).l.getD i 0)) := hr
      rw [e0, e1] at hr
      obtain ⟨k', g1, g2, g3, g4⟩ := h.fo i h1 hr
      unfold Told
      show ∃ k', (S.t.put x k).reason (absI ((S.t.put x k).l.getD i 0)) = _ ∧ _ ∧ (S.t.put x k).l.getD i 0 ∈ _ ∧ ∀ y ∈ _, y ≠ (S.t.put x k).l.getD i 0 → -y ∈ (S.t.put x k).l.take i
      rw [e0, e1]
      refine ⟨k', g1, g2, g3, fun y hy hne => ?_⟩
      rw [hl, List.take_append_of_le_length (by omega)]
      exact g4 y hy hne
    · obtain rfl : i = S.t.l.length := by simp at hi; omega
      have e0 : (S.t.put x k).l.getD S.t.l.length 0 = x := by rw [hl]; simp [List.getD]
      unfold Told
      show ∃ k', (S.t.put x k).reason (absI ((S.t.put x k).l.getD S.t.l.length 0)) = _ ∧ _ ∧ (S.t.put x k).l.getD S.t.l.length 0 ∈ _ ∧ ∀ y ∈ _, y ≠ (S.t.put x k).l.getD S.t.l.length 0 → -y ∈ (S.t.put x k).l.take S.t.l.length
      rw [e0, put_reason h.ti.ms k hx9 hx9, if_pos rfl, hl, List.take_append_of_le_length (Nat.le_refl _), List.take_length]
      exact ⟨k, rfl, hk, hx, ho⟩
  · have hy : y ∈ S.t.l ++ [x] := hy
    have hr : (S.t.put x k).reason (absI y) < 0 := hr
    rcases List.mem_append.1 hy with hy | hy
    · have hy9 := h.ti.li y hy
      rw [put_reason h.ti.ms k hx9 hy9, if_neg (fun e => by
        rcases absI_eq e with e | e
        · rw [e] at hy; exact hnx hy
        · rw [e] at hy; exact hnn hy)] at hr
      exact h.de y hy hr
    · rw [List.mem_singleton.1 hy, put_reason h.ti.ms k hx9 hx9, if_pos rfl] at hr
      omega
theorem fk_no {t : TS} {c : List Int} (h : fk t c = none) (j : Nat) (h2 : 2 ≤ j) (hj : j < c.length) : t.value (c.getD j 0) < 0 := by
  unfold fk at h
  rw [List.find?_eq_none] at h
  have := h j (by rw [List.mem_range'_1]; omega)
  simp only [decide_eq_true_eq] at this
  omega
/-- A clause that watches what has become false. -/
structure VF (S : WS) (k : Nat) (c c' : List Int) : Prop where
  kl : k < S.cl.length
  c9 : C9 c
  len : 2 ≤ c.length
  pm : c'.Perm c
  v1 : c'.getD 1 0 = wrongOf S
  pair : (c.getD 0 0 = wrongOf S ∧ c.getD 1 0 = c'.getD 0 0) ∨ (c.getD 0 0 = c'.getD 0 0 ∧ c.getD 1 0 = wrongOf S)
  ne : ∀ j, j < c.length → j ≠ 1 → c'.getD j 0 ≠ wrongOf S
theorem RJ.vf {og lc : List (List Int)} {D : Int → Prop} {N : Nat} {S : WS} {L : List Int} (h : RJ og lc D N S L) {k : Nat} (hk : (k : Int) ∈ L) : VF S k (S.cl.getD k []) (visC (S.cl.getD k []) (wrongOf S)) := by
  obtain ⟨w9, wl, -⟩ := h.i0.wrong9 h.dl
  obtain ⟨k', e, hw⟩ := (h.ww.2 _).1 hk
  obtain rfl : k = k' := by omega
  have hkl := hw.lt w9.1
  have hne : S.cl.getD k [] ≠ [] := fun e => by unfold Wat at hw; rw [e] at hw; have := w9.1; simp at hw; omega
  obtain ⟨-, -, -, c9⟩ := h.i0.cl9 hne
  have h0 := List.length_pos_iff.2 hne
  have h2 : 2 ≤ (S.cl.getD k []).length := by
    rcases (show (S.cl.getD k []).length = 1 ∨ 2 ≤ (S.cl.getD k []).length by omega) with h1 | h1
    · exfalso
      have hb := (h.i0.one h.bk k h1).mem
      unfold Wat at hw
      rcases hw with e | e
      · rw [e] at hb; exact h.i0.ti.cons hb wl
      · rw [show (S.cl.getD k []).getD 1 0 = 0 by simp only [List.getD] at h1 ⊢; rw [List.getElem?_eq_none (by omega)]; rfl] at e; exact w9.1 e.symm
    · exact h1
  have hv1 : (visC (S.cl.getD k []) (wrongOf S)).getD 1 0 = wrongOf S ∧ (((S.cl.getD k []).getD 0 0 = wrongOf S ∧ (S.cl.getD k []).getD 1 0 = (visC (S.cl.getD k []) (wrongOf S)).getD 0 0) ∨ ((S.cl.getD k []).getD 0 0 = (visC (S.cl.getD k []) (wrongOf S)).getD 0 0 ∧ (S.cl.getD k []).getD 1 0 = wrongOf S)) ∧ (visC (S.cl.getD k []) (wrongOf S)).Perm (S.cl.getD k []) := by
    unfold visC
    by_cases e : (S.cl.getD k []).getD 0 0 = wrongOf S
    · rw [if_pos e]
      refine ⟨by rw [sw_k (by omega)]; exact e, .inl ⟨e, by rw [sw_i (by omega) (by omega) (by omega)]⟩, sw_perm (by omega) (by omega)⟩
    · rw [if_neg e]
      have := hw.resolve_left e
      exact ⟨this, .inr ⟨rfl, this⟩, .refl _⟩
  refine ⟨hkl, c9, h2, hv1.2.2, hv1.1, hv1.2.1, fun j hj hj1 e => hj1 ?_⟩
  refine nodup_at (hv1.2.2.nodup_iff.2 c9.nd) (by rw [hv1.2.2.length_eq]; exact hj) (by rw [hv1.2.2.length_eq]; exact h2) ?_
  rw [e, hv1.1]
end Go.Proofs.Ytkaklgjdmlddmaa
