/-
  Package watch, PLAIN: what a watch keeps, from one Run to the next.
-/
import Derived.Test.YtghlgegfokjgbaaWaM
import Derived.Test.YtghlgegfokjgbaaWaP
namespace Go.Proofs.Ytghlgegfokjgbaa
open Go.ChangeShapes Go.WideShapes Go.ChangeAt Go.RowKit
set_option linter.unusedVariables false
set_option linter.unusedSimpArgs false
/-- A clause as it may come. -/
structure C9 (c : List Int) : Prop where
  ne : c ≠ []
  li : ∀ x ∈ c, lit9 x
  nd : c.Nodup
  cons : ∀ x ∈ c, -x ∉ c
  len : c.length ≤ 30
/-- A clause (by its number) watches a literal. -/
def Wat (cl : List (List Int)) (x : Int) (k : Nat) : Prop := (cl.getD k []).getD 0 0 = x ∨ (cl.getD k []).getD 1 0 = x
/-- The numbers of those that watch x. -/
def WI (cl : List (List Int)) (x : Int) (L : List Int) : Prop := L.Nodup ∧ ∀ id : Int, id ∈ L ↔ ∃ k : Nat, id = (k : Int) ∧ Wat cl x k
/-- True at a place that no later level than p's has. -/
def Tru (t : TS) (y : Int) (p : Nat) : Prop := ∃ q : Nat, q < t.l.length ∧ t.l.getD q 0 = y ∧ ∀ e ∈ t.lv, e ≤ (q : Int) → e ≤ (p : Int)
/-- True below all decisions. -/
def Base (t : TS) (y : Int) : Prop := ∃ q : Nat, q < t.l.length ∧ t.l.getD q 0 = y ∧ ∀ e ∈ t.lv, (q : Int) < e
theorem Tru.mem {t : TS} {y : Int} {p : Nat} (h : Tru t y p) : y ∈ t.l := by
  obtain ⟨q, h1, rfl, -⟩ := h; rw [getD_mem' h1]; exact List.getElem_mem h1
theorem Base.mem {t : TS} {y : Int} (h : Base t y) : y ∈ t.l := by
  obtain ⟨q, h1, rfl, -⟩ := h; rw [getD_mem' h1]; exact List.getElem_mem h1
/-- The clause that tells a literal with a reason, by those ahead. -/
def Told (og : List (List Int)) (t : TS) (i : Nat) : Prop :=
  ∃ k : Nat, t.reason (absI (t.l.getD i 0)) = (k : Int) ∧ k < og.length ∧ t.l.getD i 0 ∈ og.getD k [] ∧ ∀ y ∈ og.getD k [], y ≠ t.l.getD i 0 → -y ∈ t.l.take i
/-- What a watch's data keep, but for who watches: og: the clauses as they came; lc: those, removed ones empty; D: what may be decided; N: a bound on how often. -/
structure Inv0 (og lc : List (List Int)) (D : Int → Prop) (N : Nat) (S : WS) : Prop where
  ti : TI S.t
  on : og.length ≤ 80
  og9 : ∀ k, k < og.length → C9 (og.getD k [])
  lo : ∀ k, k < og.length → lc.getD k [] = [] ∨ lc.getD k [] = og.getD k []
  cn : S.cl.length = og.length
  cp : ∀ k, k < og.length → (S.cl.getD k []).Perm (lc.getD k [])
  ln : S.ls.length ≤ 20
  lb : ∀ s, (S.ls.getD s []).length ≤ 80
  n1 : S.t.now ≤ (N : Int) + (S.t.l.length : Int)
  nb : N ≤ 100000000
  dl : S.dn.length ≤ S.t.l.length
  dw : ∀ j, j < S.dn.length → S.dn.getD j 0 = S.t.wh.getD j 0
  one : S.bk < 0 → ∀ k, (S.cl.getD k []).length = 1 → Base S.t ((S.cl.getD k []).getD 0 0)
  pr : ∀ k p, p < S.dn.length → ((S.cl.getD k []).getD 0 0 = -(S.t.l.getD p 0) → Tru S.t ((S.cl.getD k []).getD 1 0) p) ∧ ((S.cl.getD k []).getD 1 0 = -(S.t.l.getD p 0) → Tru S.t ((S.cl.getD k []).getD 0 0) p)
  un : ∀ e ∈ S.t.lv, ∀ i : Nat, S.dn.length ≤ i → i < S.t.l.length → e ≤ (i : Int)
  fo : ∀ i, i < S.t.l.length → 0 ≤ S.t.reason (absI (S.t.l.getD i 0)) → Told og S.t i
  de : ∀ x ∈ S.t.l, S.t.reason (absI x) < 0 → D x
def Inv (og lc : List (List Int)) (D : Int → Prop) (N : Nat) (S : WS) : Prop := Inv0 og lc D N S ∧ ∀ x, lit9 x → WI S.cl x (S.ls.getD (slotN x) [])
structure RJ (og lc : List (List Int)) (D : Int → Prop) (N : Nat) (S : WS) (L : List Int) : Prop where
  i0 : Inv0 og lc D N S
  bk : S.bk < 0
  dl : S.dn.length < S.t.l.length
  sl : slotOf S < S.ls.length
  wi : ∀ x, lit9 x → x ≠ wrongOf S → WI S.cl x (S.ls.getD (slotN x) [])
  ww : WI S.cl (wrongOf S) L
structure RInv (og lc : List (List Int)) (D : Int → Prop) (N : Nat) (S : WS) (keep rest : List Int) : Prop where
  j : RJ og lc D N S (keep ++ rest)
  kp : ∀ k : Nat, (k : Int) ∈ keep → ((S.cl.getD k []).getD 0 0 = wrongOf S → (S.cl.getD k []).getD 1 0 ∈ S.t.l) ∧ ((S.cl.getD k []).getD 1 0 = wrongOf S → (S.cl.getD k []).getD 0 0 ∈ S.t.l)
theorem getD_nil_of {l : List (List Int)} {k : Nat} (h : l.length ≤ k) : l.getD k [] = [] := by simp [List.getD, h]
theorem Wat.lt {cl : List (List Int)} {x : Int} {k : Nat} (h : Wat cl x k) (hx : x ≠ 0) : k < cl.length := by
  rcases Nat.lt_or_ge k cl.length with h1 | h1
  · exact h1
  · unfold Wat at h; rw [getD_nil_of h1] at h; simp at h; omega
theorem WI.len {cl : List (List Int)} {x : Int} {L : List Int} (h : WI cl x L) (hx : x ≠ 0) : L.length ≤ cl.length := by
  have := h.1.length_le_of_subset (l₂ := (List.range cl.length).map fun k : Nat => (k : Int)) (fun id hid => by
    obtain ⟨k, rfl, hk⟩ := (h.2 id).1 hid
    exact List.mem_map.2 ⟨k, List.mem_range.2 (hk.lt hx), rfl⟩)
  simpa using this
/-- A clause that is there, and its literals. -/
theorem Inv0.cl9 {og lc : List (List Int)} {D : Int → Prop} {N : Nat} {S : WS} (h : Inv0 og lc D N S) {k : Nat} (hk : S.cl.getD k [] ≠ []) : k < og.length ∧ lc.getD k [] = og.getD k [] ∧ (S.cl.getD k []).Perm (og.getD k []) ∧ C9 (S.cl.getD k []) := by
  have h1 : k < og.length := by
    rcases Nat.lt_or_ge k og.length with h1 | h1
    · exact h1
    · exact absurd (getD_nil_of (by rw [h.cn]; exact h1)) hk
  have h2 := h.cp k h1
  have h3 : lc.getD k [] = og.getD k [] := by
    rcases h.lo k h1 with e | e
    · rw [e] at h2; exact absurd h2.eq_nil hk
    · exact e
  rw [h3] at h2
  have h4 := h.og9 k h1
  exact ⟨h1, h3, h2, hk, fun x hx => h4.li x (h2.mem_iff.1 hx), h2.nodup_iff.2 h4.nd, fun x hx hn => h4.cons x (h2.mem_iff.1 hx) (h2.mem_iff.1 hn), by rw [h2.length_eq]; exact h4.len⟩
theorem mem_getD {l : List Int} {i : Nat} (h : i < l.length) : l.getD i 0 ∈ l := by rw [getD_mem' h]; exact List.getElem_mem h
theorem nodup_at {l : List Int} (hn : l.Nodup) {i j : Nat} (hi : i < l.length) (hj : j < l.length) (h : l.getD i 0 = l.getD j 0) : i = j := by
  rw [getD_mem' hi, getD_mem' hj] at h
  exact (List.getElem_inj hn).1 h
theorem Inv0.run {og lc : List (List Int)} {D : Int → Prop} {N : Nat} {S : WS} (h : Inv0 og lc D N S) : RunB S := by
  have hl := h.ti.len
  have hw := h.ti.ok.wh
  have hn := h.n1
  have hb := h.nb
  exact ⟨h.ti.sg, ⟨by omega, by omega, h.ti.ok.now0, by omega⟩, hw, h.dl, fun x hx => (h.ti.li x hx).l3, by have := h.ln; omega, fun s => by have := h.lb s; omega⟩
theorem Inv0.wrong9 {og lc : List (List Int)} {D : Int → Prop} {N : Nat} {S : WS} (h : Inv0 og lc D N S) (hd : S.dn.length < S.t.l.length) : lit9 (wrongOf S) ∧ -wrongOf S ∈ S.t.l ∧ S.t.l.getD S.dn.length 0 = -wrongOf S := by
  have h1 := mem_getD hd
  have h2 := h.ti.li _ h1
  unfold wrongOf
  rw [Int.neg_neg]
  exact ⟨h2.neg, h1, rfl⟩
/-- What was gone through, one more. -/
theorem Inv0.push {og lc : List (List Int)} {D : Int → Prop} {N : Nat} {S : WS} (h : Inv0 og lc D N S) (hd : S.dn.length < S.t.l.length)
    (hp : ∀ k, ((S.cl.getD k []).getD 0 0 = wrongOf S → (S.cl.getD k []).getD 1 0 ∈ S.t.l) ∧ ((S.cl.getD k []).getD 1 0 = wrongOf S → (S.cl.getD k []).getD 0 0 ∈ S.t.l)) : Inv0 og lc D N (pushDn S) := by
  have hlen : (pushDn S).dn.length = S.dn.length + 1 := by unfold pushDn; simp
  have tru : ∀ y, y ∈ S.t.l → Tru S.t y S.dn.length := fun y hy => by
    obtain ⟨q, hq, rfl⟩ := List.getElem_of_mem hy
    exact ⟨q, hq, getD_mem' hq, fun e he _ => h.un e he _ (Nat.le_refl _) hd⟩
  refine ⟨h.ti, h.on, h.og9, h.lo, h.cn, h.cp, h.ln, h.lb, h.n1, h.nb, by rw [hlen]; exact hd, fun j hj => ?_, h.one, fun k p hpl => ?_, fun e he i hi1 hi2 => h.un e he i (by rw [hlen] at hi1; omega) hi2, h.fo, h.de⟩
  · rw [hlen] at hj
    show (S.dn ++ [S.t.wh.getD S.dn.length 0]).getD j 0 = S.t.wh.getD j 0
    rcases Nat.lt_or_ge j S.dn.length with h1 | h1
    · rw [← h.dw j h1]; simp [List.getD, List.getElem?_append_left h1]
    · obtain rfl : j = S.dn.length := by omega
      simp [List.getD]
  · rw [hlen] at hpl
    rcases Nat.lt_or_ge p S.dn.length with h1 | h1
    · exact h.pr k p h1
    · obtain rfl : p = S.dn.length := by omega
      show ((S.cl.getD k []).getD 0 0 = wrongOf S → _) ∧ ((S.cl.getD k []).getD 1 0 = wrongOf S → _)
      exact ⟨fun e => tru _ ((hp k).1 e), fun e => tru _ ((hp k).2 e)⟩
theorem Inv.skip {og lc : List (List Int)} {D : Int → Prop} {N : Nat} {S : WS} (h : Inv og lc D N S) (hd : S.dn.length < S.t.l.length) (hs : S.ls.length ≤ slotOf S) : Inv og lc D N (pushDn S) := by
  obtain ⟨w9, -, -⟩ := h.1.wrong9 hd
  have hno : ∀ k, ¬ Wat S.cl (wrongOf S) k := fun k hk => by
    have := ((h.2 _ w9).2 k).2 ⟨k, rfl, hk⟩
    rw [show S.ls.getD (slotN (wrongOf S)) [] = [] from getD_nil_of hs] at this
    simp at this
  exact ⟨h.1.push hd fun k => ⟨fun e => absurd (.inl e) (hno k), fun e => absurd (.inr e) (hno k)⟩, h.2⟩
theorem Inv.start {og lc : List (List Int)} {D : Int → Prop} {N : Nat} {S : WS} (h : Inv og lc D N S) (hb : S.bk < 0) (hd : S.dn.length < S.t.l.length) (hs : slotOf S < S.ls.length) : RInv og lc D N S [] (S.ls.getD (slotOf S) []) := by
  obtain ⟨w9, -, -⟩ := h.1.wrong9 hd
  exact ⟨⟨h.1, hb, hd, hs, fun x hx _ => h.2 x hx, by rw [List.nil_append]; exact h.2 _ w9⟩, fun k hk => by simp at hk⟩
theorem RInv.rb {og lc : List (List Int)} {D : Int → Prop} {N : Nat} {S : WS} {keep rest : List Int} (h : RInv og lc D N S keep rest) : RunB S ∧ S.dn.length < S.t.l.length ∧ slotOf S < S.ls.length ∧ keep.length + rest.length ≤ 1000 := by
  obtain ⟨h, -⟩ := h
  obtain ⟨w9, -, -⟩ := h.i0.wrong9 h.dl
  have := h.ww.len w9.1
  rw [List.length_append, h.i0.cn] at this
  have := h.i0.on
  exact ⟨h.i0.run, h.dl, h.sl, by omega⟩
/-- The lists, with this one laid back, are right again. -/
theorem RJ.close {og lc : List (List Int)} {D : Int → Prop} {N : Nat} {S : WS} {L : List Int} (h : RJ og lc D N S L) : Inv og lc D N { S with ls := S.ls.set (slotOf S) L } := by
  obtain ⟨w9, -, -⟩ := h.i0.wrong9 h.dl
  have hln := h.ww.len w9.1
  rw [h.i0.cn] at hln
  have hi := h.i0
  refine ⟨⟨hi.ti, hi.on, hi.og9, hi.lo, hi.cn, hi.cp, by rw [List.length_set]; exact hi.ln, fun s => ?_, hi.n1, hi.nb, hi.dl, hi.dw, hi.one, hi.pr, hi.un, hi.fo, hi.de⟩, fun x hx => ?_⟩
  · show ((S.ls.set (slotOf S) L).getD s []).length ≤ 80
    by_cases e : slotOf S = s
    · subst e; rw [getD_set_self _ _ _ _ h.sl]; have := hi.on; omega
    · rw [getD_set_ne _ _ _ _ _ e]; exact hi.lb s
  · show WI S.cl x ((S.ls.set (slotOf S) L).getD (slotN x) [])
    by_cases e : x = wrongOf S
    · subst e; rw [show slotN (wrongOf S) = slotOf S from rfl, getD_set_self _ _ _ _ h.sl]; exact h.ww
    · have hne : slotOf S ≠ slotN x := fun hs => e (slotN_inj hx.l3 w9.l3 hs.symm)
      rw [getD_set_ne _ _ _ _ _ hne]; exact h.wi x hx e
theorem RInv.finish {og lc : List (List Int)} {D : Int → Prop} {N : Nat} {S : WS} {keep : List Int} (h : RInv og lc D N S keep []) : Inv og lc D N (pushDn { S with ls := S.ls.set (slotOf S) keep }) := by
  obtain ⟨h, hkp⟩ := h
  rw [List.append_nil] at h
  have hc := h.close
  refine ⟨hc.1.push h.dl fun k => ?_, hc.2⟩
  show ((S.cl.getD k []).getD 0 0 = wrongOf S → _) ∧ ((S.cl.getD k []).getD 1 0 = wrongOf S → _)
  have hm : Wat S.cl (wrongOf S) k → (k : Int) ∈ keep := fun hw => (h.ww.2 k).2 ⟨k, rfl, hw⟩
  exact ⟨fun e => (hkp k (hm (.inl e))).1 e, fun e => (hkp k (hm (.inr e))).2 e⟩
end Go.Proofs.Ytghlgegfokjgbaa
/-
  Package watch, PLAIN: a clause that is visited: what a Run keeps.
-/
namespace Go.Proofs.Ytghlgegfokjgbaa
open Go.ChangeShapes Go.WideShapes Go.ChangeAt Go.RowKit
set_option linter.unusedVariables false
set_option linter.unusedSimpArgs false
theorem sw_perm {c : List Int} {i k : Nat} (hi : i < c.length) (hk : k < c.length) : (sw c i k).Perm c := by
  unfold sw; rw [getD_mem' hi, getD_mem' hk]; exact List.set_set_perm hi hk
theorem gset_self {l : List Int} {j : Nat} (x : Int) (h : j < l.length) : (l.set j x).getD j 0 = x := getD_set_self _ _ _ _ h
theorem gset_ne {l : List Int} {j k : Nat} (x : Int) (h : j ≠ k) : (l.set j x).getD k 0 = l.getD k 0 := getD_set_ne _ _ _ _ _ h
theorem sw_i {c : List Int} {i k : Nat} (hi : i < c.length) (hk : k < c.length) (h : i ≠ k) : (sw c i k).getD i 0 = c.getD k 0 := by
  unfold sw; rw [gset_ne _ (Ne.symm h), gset_self _ hi]
theorem sw_k {c : List Int} {i k : Nat} (hk : k < c.length) : (sw c i k).getD k 0 = c.getD i 0 := by
  unfold sw; rw [gset_self _ (by rw [List.length_set]; exact hk)]
theorem sw_o {c : List Int} {i k j : Nat} (hi : i ≠ j) (hk : k ≠ j) : (sw c i k).getD j 0 = c.getD j 0 := by
  unfold sw; rw [gset_ne _ hk, gset_ne _ hi]
theorem putL_at (ls : List (List Int)) (s : Nat) (id : Int) (s' : Nat) : (putL ls s id).getD s' [] = if s' = s then ls.getD s [] ++ [id] else ls.getD s' [] := by
  have hp : ∀ s', (padL ls s).getD s' [] = ls.getD s' [] := fun s' => by
    unfold padL
    rcases Nat.lt_or_ge s' ls.length with h | h
    · simp [List.getD, List.getElem?_append_left h]
    · rw [getD_nil_of h]
      simp only [List.getD, List.getElem?_append_right h, List.getElem?_replicate]
      split <;> rfl
  unfold putL
  by_cases e : s' = s
  · subst e
    rw [if_pos rfl, getD_set_self _ _ _ _ (by rw [padL_len]; omega), hp]
  · rw [if_neg e, getD_set_ne _ _ _ _ _ (Ne.symm e), hp]
theorem putL_len (ls : List (List Int)) (s : Nat) (id : Int) : (putL ls s id).length = max ls.length (s + 1) := by unfold putL; rw [List.length_set, padL_len]
theorem slotN9 {x : Int} (h : lit9 x) : slotN x ≤ 19 := by unfold slotN slotI; unfold lit9 at h; split <;> omega
theorem WI.congr {cl cl' : List (List Int)} {x : Int} {L : List Int} (h : WI cl x L) (he : ∀ k, Wat cl' x k ↔ Wat cl x k) : WI cl' x L :=
  ⟨h.1, fun id => by rw [h.2 id]; exact exists_congr fun k => and_congr_right fun _ => (he k).symm⟩
theorem set_at (cl : List (List Int)) (k : Nat) (c : List Int) (hk : k < cl.length) (k' : Nat) : (cl.set k c).getD k' [] = if k' = k then c else cl.getD k' [] := by
  by_cases e : k' = k
  · subst e; rw [if_pos rfl, getD_set_self _ _ _ _ hk]
  · rw [if_neg e, getD_set_ne _ _ _ _ _ (Ne.symm e)]
theorem wat_set {cl : List (List Int)} {k : Nat} {c : List Int} (hk : k < cl.length) (x : Int) (k' : Nat) : Wat (cl.set k c) x k' ↔ if k' = k then c.getD 0 0 = x ∨ c.getD 1 0 = x else Wat cl x k' := by
  unfold Wat
  rw [set_at _ _ _ hk]
  by_cases e : k' = k
  · rw [if_pos e, if_pos e]
  · rw [if_neg e, if_neg e]
theorem Inv0.setCl {og lc : List (List Int)} {D : Int → Prop} {N : Nat} {S : WS} (h : Inv0 og lc D N S) {k : Nat} {c : List Int} {ls : List (List Int)} (hk : k < S.cl.length) (hp : c.Perm (S.cl.getD k [])) (h2 : 2 ≤ c.length)
    (hpr : ∀ p, p < S.dn.length → (c.getD 0 0 = -(S.t.l.getD p 0) → Tru S.t (c.getD 1 0) p) ∧ (c.getD 1 0 = -(S.t.l.getD p 0) → Tru S.t (c.getD 0 0) p)) (hln : ls.length ≤ 20) (hlb : ∀ s, (ls.getD s []).length ≤ 80) :
    Inv0 og lc D N { S with cl := S.cl.set k c, ls := ls } := by
  refine ⟨h.ti, h.on, h.og9, h.lo, by rw [List.length_set]; exact h.cn, fun k' hk' => ?_, hln, hlb, h.n1, h.nb, h.dl, h.dw, fun hb k' hl => ?_, fun k' p hpl => ?_, h.un, h.fo, h.de⟩
  · show ((S.cl.set k c).getD k' []).Perm _
    rw [set_at _ _ _ hk]
    split
    · rename_i e; subst e; exact hp.trans (h.cp _ hk')
    · exact h.cp k' hk'
  · revert hl
    show ((S.cl.set k c).getD k' []).length = 1 → Base S.t (((S.cl.set k c).getD k' []).getD 0 0)
    rw [set_at _ _ _ hk]
    split
    · intro hl; omega
    · exact h.one hb k'
  · show (((S.cl.set k c).getD k' []).getD 0 0 = _ → Tru S.t (((S.cl.set k c).getD k' []).getD 1 0) p) ∧ (((S.cl.set k c).getD k' []).getD 1 0 = _ → Tru S.t (((S.cl.set k c).getD k' []).getD 0 0) p)
    rw [set_at _ _ _ hk]
    split
    · exact hpr p hpl
    · exact h.pr k' p hpl
theorem Inv0.put {og lc : List (List Int)} {D : Int → Prop} {N : Nat} {S : WS} (h : Inv0 og lc D N S) {x : Int} {k : Nat} (hk : k < og.length) (hx : x ∈ og.getD k []) (hf : S.t.value x = 0) (ho : ∀ y ∈ og.getD k [], y ≠ x → -y ∈ S.t.l) :
    Inv0 og lc D N { S with t := S.t.put x k } := by
  have hx9 := (h.og9 k hk).li x hx
  have hti := h.ti.put k hx9 hf
  have hl : (S.t.put x k).l = S.t.l ++ [x] := rfl
  have hnx : x ∉ S.t.l := fun hm => by have := (h.ti.val x hx9).2 hm; omega
  have hnn : -x ∉ S.t.l := fun hm => by have := (h.ti.m1 hx9).2 hm; omega
  have old : ∀ q, q < S.t.l.length → (S.t.l ++ [x]).getD q 0 = S.t.l.getD q 0 := fun q hq => by simp [List.getD, List.getElem?_append_left hq]
  have htru : ∀ y p, Tru S.t y p → Tru (S.t.put x k) y p := fun y p ⟨q, h1, h2, h3⟩ => ⟨q, by rw [hl, List.length_append]; omega, by rw [hl, old q h1]; exact h2, h3⟩
  refine ⟨hti, h.on, h.og9, h.lo, h.cn, h.cp, h.ln, h.lb, ?_, h.nb, by have := h.dl; show S.dn.length ≤ (S.t.l ++ [x]).length; rw [List.length_append]; omega, fun j hj => ?_, fun hb k' hl' => ?_, fun k' p hp => ?_, fun e he i hi1 hi2 => ?_, fun i hi hr => ?_, fun y hy hr => ?_⟩
  · have := h.n1
    show S.t.now + 1 ≤ (N : Int) + ((S.t.l ++ [x]).length : Int)
    rw [List.length_append]; simp; omega
  · show S.dn.getD j 0 = (S.t.wh ++ [S.t.now + 1]).getD j 0
    have hj : j < S.dn.length := hj
    have h1 : j < S.t.wh.length := by rw [h.ti.ok.wh]; exact Nat.lt_of_lt_of_le hj h.dl
    rw [h.dw j hj]; simp [List.getD, List.getElem?_append_left h1]
  · obtain ⟨q, h1, h2, h3⟩ := h.one hb k' hl'
    exact ⟨q, by rw [hl, List.length_append]; omega, by rw [hl, old q h1]; exact h2, h3⟩
  · have hp : p < S.dn.length := hp
    have h1 := Nat.lt_of_lt_of_le hp h.dl
    show ((S.cl.getD k' []).getD 0 0 = -((S.t.l ++ [x]).getD p 0) → _) ∧ ((S.cl.getD k' []).getD 1 0 = -((S.t.l ++ [x]).getD p 0) → _)
    rw [old p h1]
    exact ⟨fun e => htru _ _ ((h.pr k' p hp).1 e), fun e => htru _ _ ((h.pr k' p hp).2 e)⟩
  · have hi2 : i < (S.t.l ++ [x]).length := hi2
    rw [List.length_append] at hi2
    rcases Nat.lt_or_ge i S.t.l.length with h1 | h1
    · exact h.un e he i hi1 h1
    · have := h.ti.lvb e he; omega
  · have hi : i < (S.t.l ++ [x]).length := hi
    rw [List.length_append] at hi
    rcases Nat.lt_or_ge i S.t.l.length with h1 | h1
    · have hm := mem_getD h1
      have hm9 := h.ti.li _ hm
      have hne : ¬ absI (S.t.l.getD i 0) = absI x := fun e => by
        rcases absI_eq e with e | e
        · rw [e] at hm; exact hnx hm
        · rw [e] at hm; exact hnn hm
      have e0 : (S.t.put x k).l.getD i 0 = S.t.l.getD i 0 := old i h1
      have e1 : (S.t.put x k).reason (absI (S.t.l.getD i 0)) = S.t.reason (absI (S.t.l.getD i 0)) := by rw [put_reason h.ti.ms k hx9 hm9, if_neg hne]
      have hr : 0 ≤ (S.t.put x k).reason (absI ((S.t.put x k).l.getD i 0)) := hr
      rw [e0, e1] at hr
      obtain ⟨k', g1, g2, g3, g4⟩ := h.fo i h1 hr
      unfold Told
      show ∃ k', (S.t.put x k).reason (absI ((S.t.put x k).l.getD i 0)) = _ ∧ _ ∧ (S.t.put x k).l.getD i 0 ∈ _ ∧ ∀ y ∈ _, y ≠ (S.t.put x k).l.getD i 0 → -y ∈ (S.t.put x k).l.take i
      rw [e0, e1]
      refine ⟨k', g1, g2, g3, fun y hy hne => ?_⟩
      rw [hl, List.take_append_of_le_length (by omega)]
      exact g4 y hy hne
    · obtain rfl : i = S.t.l.length := by simp at hi; omega
      have e0 : (S.t.put x k).l.getD S.t.l.length 0 = x := by rw [hl]; simp [List.getD]
      unfold Told
      show ∃ k', (S.t.put x k).reason (absI ((S.t.put x k).l.getD S.t.l.length 0)) = _ ∧ _ ∧ (S.t.put x k).l.getD S.t.l.length 0 ∈ _ ∧ ∀ y ∈ _, y ≠ (S.t.put x k).l.getD S.t.l.length 0 → -y ∈ (S.t.put x k).l.take S.t.l.length
      rw [e0, put_reason h.ti.ms k hx9 hx9, if_pos rfl, hl, List.take_append_of_le_length (Nat.le_refl _), List.take_length]
      exact ⟨k, rfl, hk, hx, ho⟩
  · have hy : y ∈ S.t.l ++ [x] := hy
    have hr : (S.t.put x k).reason (absI y) < 0 := hr
    rcases List.mem_append.1 hy with hy | hy
    · have hy9 := h.ti.li y hy
      rw [put_reason h.ti.ms k hx9 hy9, if_neg (fun e => by
        rcases absI_eq e with e | e
        · rw [e] at hy; exact hnx hy
        · rw [e] at hy; exact hnn hy)] at hr
      exact h.de y hy hr
    · rw [List.mem_singleton.1 hy, put_reason h.ti.ms k hx9 hx9, if_pos rfl] at hr
      omega
theorem fk_no {t : TS} {c : List Int} (h : fk t c = none) (j : Nat) (h2 : 2 ≤ j) (hj : j < c.length) : t.value (c.getD j 0) < 0 := by
  unfold fk at h
  rw [List.find?_eq_none] at h
  have := h j (by rw [List.mem_range'_1]; omega)
  simp only [decide_eq_true_eq] at this
  omega
/-- A clause that watches what has become false. -/
structure VF (S : WS) (k : Nat) (c c' : List Int) : Prop where
  kl : k < S.cl.length
  c9 : C9 c
  len : 2 ≤ c.length
  pm : c'.Perm c
  v1 : c'.getD 1 0 = wrongOf S
  pair : (c.getD 0 0 = wrongOf S ∧ c.getD 1 0 = c'.getD 0 0) ∨ (c.getD 0 0 = c'.getD 0 0 ∧ c.getD 1 0 = wrongOf S)
  ne : ∀ j, j < c.length → j ≠ 1 → c'.getD j 0 ≠ wrongOf S
theorem RJ.vf {og lc : List (List Int)} {D : Int → Prop} {N : Nat} {S : WS} {L : List Int} (h : RJ og lc D N S L) {k : Nat} (hk : (k : Int) ∈ L) : VF S k (S.cl.getD k []) (visC (S.cl.getD k []) (wrongOf S)) := by
  obtain ⟨w9, wl, -⟩ := h.i0.wrong9 h.dl
  obtain ⟨k', e, hw⟩ := (h.ww.2 _).1 hk
  obtain rfl : k = k' := by omega
  have hkl := hw.lt w9.1
  have hne : S.cl.getD k [] ≠ [] := fun e => by unfold Wat at hw; rw [e] at hw; have := w9.1; simp at hw; omega
  obtain ⟨-, -, -, c9⟩ := h.i0.cl9 hne
  have h0 := List.length_pos_iff.2 hne
  have h2 : 2 ≤ (S.cl.getD k []).length := by
    rcases (show (S.cl.getD k []).length = 1 ∨ 2 ≤ (S.cl.getD k []).length by omega) with h1 | h1
    · exfalso
      have hb := (h.i0.one h.bk k h1).mem
      unfold Wat at hw
      rcases hw with e | e
      · rw [e] at hb; exact h.i0.ti.cons hb wl
      · rw [show (S.cl.getD k []).getD 1 0 = 0 by simp only [List.getD] at h1 ⊢; rw [List.getElem?_eq_none (by omega)]; rfl] at e; exact w9.1 e.symm
    · exact h1
  have hv1 : (visC (S.cl.getD k []) (wrongOf S)).getD 1 0 = wrongOf S ∧ (((S.cl.getD k []).getD 0 0 = wrongOf S ∧ (S.cl.getD k []).getD 1 0 = (visC (S.cl.getD k []) (wrongOf S)).getD 0 0) ∨ ((S.cl.getD k []).getD 0 0 = (visC (S.cl.getD k []) (wrongOf S)).getD 0 0 ∧ (S.cl.getD k []).getD 1 0 = wrongOf S)) ∧ (visC (S.cl.getD k []) (wrongOf S)).Perm (S.cl.getD k []) := by
    unfold visC
    by_cases e : (S.cl.getD k []).getD 0 0 = wrongOf S
    · rw [if_pos e]
      refine ⟨by rw [sw_k (by omega)]; exact e, .inl ⟨e, by rw [sw_i (by omega) (by omega) (by omega)]⟩, sw_perm (by omega) (by omega)⟩
    · rw [if_neg e]
      have := hw.resolve_left e
      exact ⟨this, .inr ⟨rfl, this⟩, .refl _⟩
  refine ⟨hkl, c9, h2, hv1.2.2, hv1.1, hv1.2.1, fun j hj hj1 e => hj1 ?_⟩
  refine nodup_at (hv1.2.2.nodup_iff.2 c9.nd) (by rw [hv1.2.2.length_eq]; exact hj) (by rw [hv1.2.2.length_eq]; exact h2) ?_
  rw [e, hv1.1]
end Go.Proofs.Ytghlgegfokjgbaa
/-
  Package watch, PLAIN: Run's law: what holds between two literals, between two clauses, and at the end.
-/
namespace Go.Proofs.Ytghlgegfokjgbaa
open Go.ChangeShapes Go.WideShapes Go.ChangeAt Go.RowKit
set_option linter.unusedVariables false
set_option linter.unusedSimpArgs false
theorem VF.kept {S : WS} {k : Nat} {c c' : List Int} (v : VF S k c c') : 2 ≤ c'.length := by rw [v.pm.length_eq]; exact v.len
/-- The clause's first two may have changed places. -/
theorem RJ.swapped {og lc : List (List Int)} {D : Int → Prop} {N : Nat} {S : WS} {L : List Int} (h : RJ og lc D N S L) {k : Nat} (hk : (k : Int) ∈ L) :
    RJ og lc D N { S with cl := S.cl.set k (visC (S.cl.getD k []) (wrongOf S)) } L := by
  have v := h.vf hk
  have he : ∀ x k', Wat (S.cl.set k (visC (S.cl.getD k []) (wrongOf S))) x k' ↔ Wat S.cl x k' := fun x k' => by
    rw [wat_set v.kl]
    split
    · rename_i e; subst e
      unfold Wat
      rw [v.v1]
      rcases v.pair with ⟨p1, p2⟩ | ⟨p1, p2⟩
      · rw [p1, p2]; exact Or.comm
      · rw [p1, p2]
    · exact Iff.rfl
  refine ⟨h.i0.setCl v.kl v.pm v.kept (fun p hp => ?_) h.i0.ln h.i0.lb, h.bk, h.dl, h.sl, fun x hx hne => (h.wi x hx hne).congr (he x), h.ww.congr (he _)⟩
  have := h.i0.pr k p hp
  rw [v.v1]
  rcases v.pair with ⟨p1, p2⟩ | ⟨p1, p2⟩
  · rw [p1, p2] at this; exact ⟨this.2, this.1⟩
  · rw [p1, p2] at this; exact this
theorem nd_mid {keep rest : List Int} {k : Int} (h : (keep ++ k :: rest).Nodup) : k ∉ keep ∧ k ∉ rest ∧ (keep ++ rest).Nodup := by
  rw [List.nodup_append, List.nodup_cons] at h
  obtain ⟨h1, ⟨h2, h3⟩, h4⟩ := h
  refine ⟨fun hm => h4 k hm k List.mem_cons_self rfl, h2, ?_⟩
  rw [List.nodup_append]
  exact ⟨h1, h3, fun a ha b hb => h4 a ha b (List.mem_cons_of_mem _ hb)⟩
/-- What keeps watching, one more. -/
theorem RInv.more {og lc : List (List Int)} {D : Int → Prop} {N : Nat} {S S2 : WS} {keep rest : List Int} {k : Nat} (h : RInv og lc D N S keep ((k : Int) :: rest)) (hj : RJ og lc D N S2 (keep ++ (k : Int) :: rest)) (hw : wrongOf S2 = wrongOf S)
    (hc : ∀ k', k' ≠ k → S2.cl.getD k' [] = S.cl.getD k' []) (hl : ∀ y, y ∈ S.t.l → y ∈ S2.t.l) (h0 : (S2.cl.getD k []).getD 0 0 ≠ wrongOf S) (h1 : (S2.cl.getD k []).getD 0 0 ∈ S2.t.l) : RInv og lc D N S2 (keep ++ [(k : Int)]) rest := by
  obtain ⟨hnk, -, -⟩ := nd_mid h.j.ww.1
  refine ⟨by rw [List.append_assoc]; exact hj, fun k' hk' => ?_⟩
  rw [hw]
  rcases List.mem_append.1 hk' with hk' | hk'
  · have hne : k' ≠ k := fun e => by rw [e] at hk'; exact hnk hk'
    rw [hc k' hne]
    exact ⟨fun e => hl _ ((h.kp k' hk').1 e), fun e => hl _ ((h.kp k' hk').2 e)⟩
  · have : (k' : Int) = k := List.mem_singleton.1 hk'
    obtain rfl : k' = k := by omega
    exact ⟨fun e => absurd e h0, fun _ => h1⟩
/-- A clause that is visited watches another literal. -/
theorem RInv.move {og lc : List (List Int)} {D : Int → Prop} {N : Nat} {S : WS} {keep rest : List Int} {k j : Nat} (h : RInv og lc D N S keep ((k : Int) :: rest)) (h2 : 2 ≤ j) (hjl : j < (visC (S.cl.getD k []) (wrongOf S)).length) (hv : 0 ≤ S.t.value ((visC (S.cl.getD k []) (wrongOf S)).getD j 0)) :
    RInv og lc D N { S with cl := S.cl.set k (sw (visC (S.cl.getD k []) (wrongOf S)) 1 j), ls := putL S.ls (slotN ((visC (S.cl.getD k []) (wrongOf S)).getD j 0)) k } keep rest := by
  have hkL : (k : Int) ∈ keep ++ (k : Int) :: rest := by simp
  have v := h.j.vf hkL
  obtain ⟨w9, wl, wa⟩ := h.j.i0.wrong9 h.j.dl
  obtain ⟨hnk, hnr, hnd⟩ := nd_mid h.j.ww.1
  obtain ⟨c, hc⟩ : ∃ c, c = S.cl.getD k [] := ⟨_, rfl⟩
  obtain ⟨c', hc'⟩ : ∃ c', c' = visC (S.cl.getD k []) (wrongOf S) := ⟨_, rfl⟩
  rw [← hc'] at hjl hv v ⊢
  rw [← hc] at v
  obtain ⟨y, hy⟩ : ∃ y, y = c'.getD j 0 := ⟨_, rfl⟩
  rw [← hy] at hv ⊢
  have hlen : c'.length = c.length := v.pm.length_eq
  have hjc : j < c.length := by omega
  have hnd' : c'.Nodup := v.pm.nodup_iff.2 v.c9.nd
  have hyc : y ∈ c' := by rw [hy]; exact mem_getD hjl
  have hy9 : lit9 y := v.c9.li y (v.pm.mem_iff.1 hyc)
  have hyw : y ≠ wrongOf S := by rw [hy]; exact v.ne j hjc (by omega)
  have hy0 : y ≠ c'.getD 0 0 := fun e => by
    rw [hy] at e
    have := nodup_at hnd' hjl (by omega) e
    omega
  have h0w : c'.getD 0 0 ≠ wrongOf S := v.ne 0 (by have := v.len; omega) (by omega)
  have s0 : (sw c' 1 j).getD 0 0 = c'.getD 0 0 := sw_o (by omega) (by omega)
  have s1 : (sw c' 1 j).getD 1 0 = y := by rw [sw_i (by omega) hjl (by omega), ← hy]
  have hnw : ¬ Wat S.cl y k := fun e => by
    unfold Wat at e
    rw [← hc] at e
    rcases v.pair with ⟨p1, p2⟩ | ⟨p1, p2⟩
    · rw [p1, p2] at e; rcases e with e | e
      · exact hyw e.symm
      · exact hy0 e.symm
    · rw [p1, p2] at e; rcases e with e | e
      · exact hy0 e.symm
      · exact hyw e.symm
  have hpm : (sw c' 1 j).Perm (S.cl.getD k []) := by rw [← hc]; exact (sw_perm (by omega) hjl).trans v.pm
  have wy := h.j.wi y hy9 hyw
  have wat : ∀ x k', Wat (S.cl.set k (sw c' 1 j)) x k' ↔ if k' = k then c'.getD 0 0 = x ∨ y = x else Wat S.cl x k' := fun x k' => by
    rw [wat_set v.kl, s0, s1]
  have watk : ∀ x, Wat S.cl x k ↔ c'.getD 0 0 = x ∨ wrongOf S = x := fun x => by
    unfold Wat
    rw [← hc]
    rcases v.pair with ⟨p1, p2⟩ | ⟨p1, p2⟩
    · rw [p1, p2]; exact Or.comm
    · rw [p1, p2]
  have wy2 : WI (S.cl.set k (sw c' 1 j)) y (S.ls.getD (slotN y) [] ++ [(k : Int)]) := by
    refine ⟨?_, fun id => ?_⟩
    · rw [List.nodup_append]
      refine ⟨wy.1, by simp, fun a ha b hb => ?_⟩
      rw [List.mem_singleton.1 hb]
      rintro rfl
      obtain ⟨k', e, hk'⟩ := (wy.2 _).1 ha
      obtain rfl : k = k' := by omega
      exact hnw hk'
    · rw [List.mem_append, wy.2, List.mem_singleton]
      constructor
      · rintro (⟨k', rfl, hk'⟩ | rfl)
        · refine ⟨k', rfl, (wat y k').2 ?_⟩
          split
          · exact .inr rfl
          · exact hk'
        · exact ⟨k, rfl, (wat y k).2 (by rw [if_pos rfl]; exact .inr rfl)⟩
      · rintro ⟨k', rfl, hk'⟩
        rw [wat] at hk'
        by_cases e : k' = k
        · exact .inr (by rw [e])
        · rw [if_neg e] at hk'; exact .inl ⟨k', rfl, hk'⟩
  have hyl : (S.ls.getD (slotN y) [] ++ [(k : Int)]).length ≤ 80 := by
    have := wy2.len hy9.1
    rw [List.length_set, h.j.i0.cn] at this
    have := h.j.i0.on
    omega
  have hslot : slotOf S ≠ slotN y := fun e => hyw (slotN_inj hy9.l3 w9.l3 e.symm)
  refine ⟨⟨h.j.i0.setCl v.kl hpm (by rw [sw_len]; have := v.kept; omega) (fun p hp => ?_) ?_ (fun s => ?_), h.j.bk, h.j.dl, ?_, fun x hx hne => ?_, ?_⟩, fun k' hk' => ?_⟩
  · rw [s0, s1]
    have hpl : -S.t.l.getD p 0 ∉ S.t.l := fun hm => h.j.i0.ti.cons (mem_getD (Nat.lt_of_lt_of_le hp h.j.i0.dl)) hm
    have hwl : wrongOf S ∉ S.t.l := fun hm => h.j.i0.ti.cons hm wl
    constructor
    · intro e
      have := h.j.i0.pr k p hp
      rw [← hc] at this
      exfalso
      rcases v.pair with ⟨p1, p2⟩ | ⟨p1, p2⟩
      · rw [p1, p2] at this; exact hwl (this.2 e).mem
      · rw [p1, p2] at this; exact hwl (this.1 e).mem
    · intro e
      exfalso
      have : -y ∈ S.t.l := by rw [e, Int.neg_neg]; exact mem_getD (Nat.lt_of_lt_of_le hp h.j.i0.dl)
      have := (h.j.i0.ti.lt0 hy9).2 this
      omega
  · rw [putL_len]; have := h.j.i0.ln; have := slotN9 hy9; omega
  · rw [putL_at]
    split
    · exact hyl
    · exact h.j.i0.lb s
  · show slotOf S < (putL S.ls (slotN y) k).length
    rw [putL_len]; have := h.j.sl; omega
  · show WI (S.cl.set k (sw c' 1 j)) x ((putL S.ls (slotN y) k).getD (slotN x) [])
    have hne : x ≠ wrongOf S := hne
    rw [putL_at]
    by_cases e : x = y
    · subst e; rw [if_pos rfl]; exact wy2
    · rw [if_neg (fun hs => e (slotN_inj hx.l3 hy9.l3 hs))]
      refine (h.j.wi x hx hne).congr fun k' => ?_
      rw [wat]
      split
      · rename_i e2; subst e2
        rw [watk]
        exact ⟨fun q => q.elim .inl (fun q => absurd q.symm e), fun q => q.elim .inl (fun q => absurd q.symm hne)⟩
      · exact Iff.rfl
  · show WI (S.cl.set k (sw c' 1 j)) (wrongOf S) (keep ++ rest)
    refine ⟨hnd, fun id => ?_⟩
    constructor
    · intro hid
      have hid2 : id ∈ keep ++ (k : Int) :: rest := by
        rcases List.mem_append.1 hid with q | q
        · exact List.mem_append_left _ q
        · exact List.mem_append_right _ (List.mem_cons_of_mem _ q)
      obtain ⟨k', rfl, hk'⟩ := (h.j.ww.2 _).1 hid2
      refine ⟨k', rfl, (wat _ k').2 ?_⟩
      rw [if_neg (fun e => ?_)]
      · exact hk'
      · subst e
        rcases List.mem_append.1 hid with q | q
        · exact hnk q
        · exact hnr q
    · rintro ⟨k', rfl, hk'⟩
      rw [wat] at hk'
      by_cases e : k' = k
      · rw [if_pos e] at hk'
        rcases hk' with q | q
        · exact absurd q h0w
        · exact absurd q hyw
      · rw [if_neg e] at hk'
        have := (h.j.ww.2 (k' : Int)).2 ⟨k', rfl, hk'⟩
        rcases List.mem_append.1 this with q | q
        · exact List.mem_append_left _ q
        · rcases List.mem_cons.1 q with q | q
          · exact absurd (by omega) e
          · exact List.mem_append_right _ q
  · have hne : k' ≠ k := fun e => by rw [e] at hk'; exact hnk hk'
    show (((S.cl.set k (sw c' 1 j)).getD k' []).getD 0 0 = wrongOf S → ((S.cl.set k (sw c' 1 j)).getD k' []).getD 1 0 ∈ S.t.l) ∧ (((S.cl.set k (sw c' 1 j)).getD k' []).getD 1 0 = wrongOf S → ((S.cl.set k (sw c' 1 j)).getD k' []).getD 0 0 ∈ S.t.l)
    rw [set_at _ _ _ v.kl, if_neg hne]
    exact h.kp k' hk'
/-- What a Run's end tells. -/
structure EInv (og lc : List (List Int)) (D : Int → Prop) (N : Nat) (id : Int) (fine : Bool) (S : WS) : Prop where
  inv : Inv og lc D N S
  bk : S.bk < 0
  yes : fine = true → id = -1 ∧ S.dn.length = S.t.l.length
  no : fine = false → ∃ k : Nat, id = (k : Int) ∧ k < og.length ∧ lc.getD k [] ≠ [] ∧ ∀ y ∈ lc.getD k [], -y ∈ S.t.l
theorem RInv.visit {og lc : List (List Int)} {D : Int → Prop} {N : Nat} {S : WS} {keep rest : List Int} {k : Nat} (h : RInv og lc D N S keep ((k : Int) :: rest)) :
    ((visitF S k (wrongOf S)).2.2 = true → RInv og lc D N (visitF S k (wrongOf S)).1 (if (visitF S k (wrongOf S)).2.1 then keep ++ [(k : Int)] else keep) rest) ∧
    ((visitF S k (wrongOf S)).2.2 = false → (visitF S k (wrongOf S)).2.1 = true ∧ RJ og lc D N (visitF S k (wrongOf S)).1 (keep ++ (k : Int) :: rest) ∧ k < og.length ∧ lc.getD k [] ≠ [] ∧ ∀ y ∈ lc.getD k [], -y ∈ (visitF S k (wrongOf S)).1.t.l) := by
  have hkL : (k : Int) ∈ keep ++ (k : Int) :: rest := by simp
  have v := h.j.vf hkL
  have hs := h.j.swapped hkL
  obtain ⟨w9, wl, wa⟩ := h.j.i0.wrong9 h.j.dl
  obtain ⟨c', hc'⟩ : ∃ c', c' = visC (S.cl.getD k []) (wrongOf S) := ⟨_, rfl⟩
  have hmv := fun j h2 hjl hv => h.move (j := j) h2 hjl hv
  unfold visitF
  rw [← hc'] at v hs hmv ⊢
  have hlen : c'.length = (S.cl.getD k []).length := v.pm.length_eq
  have hl2 := v.len
  have h0c : c'.getD 0 0 ∈ c' := mem_getD (by omega)
  have h09 : lit9 (c'.getD 0 0) := v.c9.li _ (v.pm.mem_iff.1 h0c)
  have h0w : c'.getD 0 0 ≠ wrongOf S := v.ne 0 (by omega) (by omega)
  have hck : (S.cl.set k c').getD k [] = c' := by rw [set_at _ _ _ v.kl, if_pos rfl]
  have hce : ∀ k', k' ≠ k → (S.cl.set k c').getD k' [] = S.cl.getD k' [] := fun k' e => by rw [set_at _ _ _ v.kl, if_neg e]
  rw [if_neg (by omega)]
  by_cases hv : 0 < S.t.value (c'.getD 0 0)
  · rw [if_pos hv]
    refine ⟨fun _ => ?_, (fun e => by cases e)⟩
    refine h.more hs rfl hce (fun y hy => hy) ?_ ?_
    · show ((S.cl.set k c').getD k []).getD 0 0 ≠ _; rw [hck]; exact h0w
    · show ((S.cl.set k c').getD k []).getD 0 0 ∈ S.t.l; rw [hck]; exact (h.j.i0.ti.gt0 h09).1 hv
  · rw [if_neg hv]
    cases hf : fk S.t c' with
    | some j =>
      obtain ⟨j1, j2, j3⟩ := fk_spec hf
      simp only
      refine ⟨fun _ => ?_, (fun e => by cases e)⟩
      exact hmv j j1 j2 j3
    | none =>
      simp only
      have hall : ∀ j, 1 ≤ j → j < c'.length → -(c'.getD j 0) ∈ S.t.l := fun j h1 hj => by
        rcases (show j = 1 ∨ 2 ≤ j by omega) with rfl | h2
        · rw [v.v1]; exact wl
        · have hm : c'.getD j 0 ∈ c' := mem_getD hj
          exact (h.j.i0.ti.lt0 (v.c9.li _ (v.pm.mem_iff.1 hm))).1 (fk_no hf j h2 hj)
      have hne : S.cl.getD k [] ≠ [] := v.c9.ne
      obtain ⟨hkl, hlo, hpo, -⟩ := h.j.i0.cl9 hne
      by_cases hv2 : S.t.value (c'.getD 0 0) < 0
      · rw [if_pos hv2]
        refine ⟨(fun e => by cases e), fun _ => ⟨rfl, hs, hkl, ?_, fun y hy => ?_⟩⟩
        · rw [hlo]; exact (h.j.i0.og9 k hkl).ne
        · rw [hlo] at hy
          obtain ⟨j, hj, rfl⟩ := List.getElem_of_mem (v.pm.mem_iff.2 (hpo.mem_iff.2 hy))
          show -c'[j] ∈ S.t.l
          rw [← getD_mem' hj]
          rcases Nat.eq_zero_or_pos j with e | e
          · rw [e]; exact (h.j.i0.ti.lt0 h09).1 hv2
          · exact hall j e hj
      · rw [if_neg hv2]
        have hv0 : S.t.value (c'.getD 0 0) = 0 := by omega
        refine ⟨fun _ => ?_, (fun e => by cases e)⟩
        have hfr := (free9 h.j.i0.ti.ms h09).2 hv0
        unfold impT
        rw [if_pos hfr]
        have h0og : c'.getD 0 0 ∈ og.getD k [] := hpo.mem_iff.1 (v.pm.mem_iff.1 h0c)
        have hp := hs.i0.put (x := c'.getD 0 0) hkl h0og hv0 (fun y hy hny => by
          obtain ⟨j, hj, rfl⟩ := List.getElem_of_mem (v.pm.mem_iff.2 (hpo.mem_iff.2 hy))
          show -c'[j] ∈ S.t.l
          rw [← getD_mem' hj] at hny ⊢
          refine hall j ?_ hj
          rcases Nat.eq_zero_or_pos j with e | e
          · rw [e] at hny; exact absurd rfl hny
          · exact e)
        have hwr : wrongOf { S with cl := S.cl.set k c', t := S.t.put (c'.getD 0 0) k } = wrongOf S := by
          unfold wrongOf
          show -((S.t.l ++ [c'.getD 0 0]).getD S.dn.length 0) = _
          simp only [List.getD]
          rw [List.getElem?_append_left h.j.dl]
        refine h.more ⟨hp, h.j.bk, by show S.dn.length < (S.t.l ++ [_]).length; rw [List.length_append]; have := h.j.dl; omega, by unfold slotOf; rw [hwr]; exact h.j.sl, fun x hx hx2 => hs.wi x hx (by rw [hwr] at hx2; exact hx2), by rw [hwr]; exact hs.ww⟩ hwr hce (fun y hy => List.mem_append_left _ hy) ?_ ?_
        · show ((S.cl.set k c').getD k []).getD 0 0 ≠ _; rw [hck]; exact h0w
        · show ((S.cl.set k c').getD k []).getD 0 0 ∈ S.t.l ++ [_]; rw [hck]; simp
theorem visitF_bk (S : WS) (k : Nat) (wrong : Int) : (visitF S k wrong).1.bk = S.bk := by
  unfold visitF
  split
  · rfl
  · split
    · rfl
    · split
      · rfl
      · split <;> rfl
/-- The law of Run. -/
theorem run_law (og lc : List (List Int)) (D : Int → Prop) (N : Nat) : RunLaw (fun S => Inv og lc D N S ∧ S.bk < 0) (RInv og lc D N) (EInv og lc D N) where
  qb := fun S h => h.1.1.run
  skip := fun S h hd hs => ⟨h.1.skip hd hs, h.2⟩
  start := fun S h hd hs => h.1.start h.2 hd hs
  rb := fun S keep rest h => h.rb
  vis := fun S keep id rest h => by
    obtain ⟨w9, wl, wa⟩ := h.j.i0.wrong9 h.j.dl
    obtain ⟨k, rfl, hw⟩ := (h.j.ww.2 id).1 (by simp)
    have v := h.j.vf (k := k) (by simp)
    have hr := h.j.i0.run
    refine ⟨k, rfl, hr.sg, hr.tb, v.kl, by rw [h.j.i0.cn]; have := h.j.i0.on; omega, v.c9.ne, by have := v.c9.len; omega, fun x hx => (v.c9.li x hx).l3, hr.lb.mono (by omega), fun j hj => ?_⟩
    by_cases e : (visC (S.cl.getD k []) (wrongOf S)).getD j 0 = wrongOf S
    · right; rw [e]; exact (h.j.i0.ti.lt0 w9).2 wl
    · exact .inl e
  step := fun S keep k rest h hf => h.visit.1 hf
  confl := fun S keep k rest h hf => by
    obtain ⟨h1, h2, h3, h4, h5⟩ := h.visit.2 hf
    have hs : slotOf (visitF S k (wrongOf S)).1 = slotOf S := by unfold slotOf; rw [visitF_wrong S k _ h.j.dl]
    have hc := h2.close
    rw [hs] at hc
    rw [h1, if_pos rfl, List.append_assoc]
    refine ⟨hc, by show (visitF S k (wrongOf S)).1.bk < 0; rw [visitF_bk]; exact h.j.bk, (fun e => by cases e), fun _ => ⟨k, rfl, h3, h4, h5⟩⟩
  finish := fun S keep h => ⟨h.finish, h.j.bk⟩
  done := fun S h hd => ⟨h.1, h.2, fun _ => ⟨rfl, by have := h.1.1.dl; omega⟩, (fun e => by cases e)⟩
end Go.Proofs.Ytghlgegfokjgbaa
/-
  Package watch, PLAIN: what deciding, going back and removing keep.
-/
namespace Go.Proofs.Ytghlgegfokjgbaa
open Go.ChangeShapes Go.WideShapes Go.ChangeAt Go.RowKit
set_option linter.unusedVariables false
set_option linter.unusedSimpArgs false
theorem backF_same {S : WS} (h : S.dn.length ≤ S.t.l.length) : backF S = S := by
  unfold backF backN
  rw [Nat.min_eq_left h, List.take_length]
theorem Inv0.backOk {og lc : List (List Int)} {D : Int → Prop} {N : Nat} {S : WS} (h : Inv0 og lc D N S) : BackOk S :=
  ⟨h.ti.ok.wh, fun j hj _ => h.dw j hj, fun j hj => by
    have h1 : j < S.t.wh.length := by rw [h.ti.ok.wh]; exact Nat.lt_of_lt_of_le hj h.dl
    have := h.ti.whp _ (mem_getD h1)
    rw [h.dw j hj]; omega, by have := h.dl; have := h.ti.len; omega⟩
/-- A watch between two acts: it may have been gone through further than its trail reaches. -/
structure Pre (og lc : List (List Int)) (D : Int → Prop) (N : Nat) (S : WS) : Prop where
  ok : BackOk S
  inv : Inv og lc D N (backF S)
theorem Inv.pre {og lc : List (List Int)} {D : Int → Prop} {N : Nat} {S : WS} (h : Inv og lc D N S) : Pre og lc D N S := ⟨h.1.backOk, by rw [backF_same h.1.dl]; exact h⟩
theorem Inv.mono {og lc : List (List Int)} {D D' : Int → Prop} {N N' : Nat} {S : WS} (h : Inv og lc D N S) (hD : ∀ x, D x → D' x) (hN : N ≤ N') (hb : N' ≤ 100000000) : Inv og lc D' N' S := by
  obtain ⟨h, h2⟩ := h
  exact ⟨⟨h.ti, h.on, h.og9, h.lo, h.cn, h.cp, h.ln, h.lb, by have := h.n1; omega, hb, h.dl, h.dw, h.one, h.pr, h.un, h.fo, fun x hx hr => hD _ (h.de x hx hr)⟩, h2⟩
theorem Inv.decide {og lc : List (List Int)} {D D' : Int → Prop} {N : Nat} {S : WS} (h : Inv og lc D N S) (he : S.dn.length = S.t.l.length) {x : Int} (hx : lit9 x) (hf : S.t.value x = 0) (hD : ∀ y, D y → D' y) (hDx : D' x) :
    Inv og lc D' N { S with t := S.t.up.put x (-1) } := by
  obtain ⟨h, h2⟩ := h
  have hl : (S.t.up.put x (-1)).l = S.t.l ++ [x] := rfl
  have hlv : (S.t.up.put x (-1)).lv = S.t.lv ++ [(S.t.l.length : Int)] := rfl
  have hnx : x ∉ S.t.l := fun hm => by have := (h.ti.val x hx).2 hm; omega
  have hnn : -x ∉ S.t.l := fun hm => by have := (h.ti.m1 hx).2 hm; omega
  have old : ∀ q, q < S.t.l.length → (S.t.l ++ [x]).getD q 0 = S.t.l.getD q 0 := fun q hq => by simp [List.getD, List.getElem?_append_left hq]
  have hre : ∀ y ∈ S.t.l, (S.t.up.put x (-1)).reason (absI y) = S.t.reason (absI y) := fun y hy => by
    have hy9 := h.ti.li y hy
    rw [put_reason (t := S.t.up) h.ti.ms (-1) hx hy9, if_neg (fun e => by
      rcases absI_eq e with e | e
      · rw [e] at hy; exact hnx hy
      · rw [e] at hy; exact hnn hy)]
    rfl
  have hrx : (S.t.up.put x (-1)).reason (absI x) = -1 := by rw [put_reason (t := S.t.up) h.ti.ms (-1) hx hx, if_pos rfl]
  refine ⟨⟨h.ti.up (-1) hx hf, h.on, h.og9, h.lo, h.cn, h.cp, h.ln, h.lb, ?_, h.nb, by have := h.dl; show S.dn.length ≤ (S.t.l ++ [x]).length; rw [List.length_append]; omega, fun j hj => ?_, fun hb k' hl' => ?_, fun k' p hp => ?_, fun e he2 i hi1 hi2 => ?_, fun i hi hr => ?_, fun y hy hr => ?_⟩, h2⟩
  · have := h.n1
    show S.t.now + 1 ≤ (N : Int) + ((S.t.l ++ [x]).length : Int)
    rw [List.length_append]; simp; omega
  · show S.dn.getD j 0 = (S.t.wh ++ [S.t.now + 1]).getD j 0
    have hj : j < S.dn.length := hj
    have h1 : j < S.t.wh.length := by rw [h.ti.ok.wh]; exact Nat.lt_of_lt_of_le hj h.dl
    rw [h.dw j hj]; simp [List.getD, List.getElem?_append_left h1]
  · obtain ⟨q, h1, h2, h3⟩ := h.one hb k' hl'
    refine ⟨q, by rw [hl, List.length_append]; omega, by rw [hl, old q h1]; exact h2, fun e he => ?_⟩
    rw [hlv] at he
    rcases List.mem_append.1 he with he | he
    · exact h3 e he
    · rw [List.mem_singleton.1 he]; omega
  · have hp : p < S.dn.length := hp
    have h1 := Nat.lt_of_lt_of_le hp h.dl
    have htru : ∀ y, Tru S.t y p → Tru (S.t.up.put x (-1)) y p := fun y ⟨q, h1, h2, h3⟩ => ⟨q, by rw [hl, List.length_append]; omega, by rw [hl, old q h1]; exact h2, fun e he hq => by
      rw [hlv] at he
      rcases List.mem_append.1 he with he | he
      · exact h3 e he hq
      · rw [List.mem_singleton.1 he] at hq; omega⟩
    show ((S.cl.getD k' []).getD 0 0 = -((S.t.l ++ [x]).getD p 0) → _) ∧ ((S.cl.getD k' []).getD 1 0 = -((S.t.l ++ [x]).getD p 0) → _)
    rw [old p h1]
    exact ⟨fun e => htru _ ((h.pr k' p hp).1 e), fun e => htru _ ((h.pr k' p hp).2 e)⟩
  · have hi1 : S.dn.length ≤ i := hi1
    have he2 : e ∈ S.t.lv ++ [(S.t.l.length : Int)] := he2
    rcases List.mem_append.1 he2 with he2 | he2
    · have := h.ti.lvb e he2; omega
    · rw [List.mem_singleton.1 he2]; omega
  · have hi : i < (S.t.l ++ [x]).length := hi
    rw [List.length_append] at hi
    have hr : 0 ≤ (S.t.up.put x (-1)).reason (absI ((S.t.l ++ [x]).getD i 0)) := hr
    rcases Nat.lt_or_ge i S.t.l.length with h1 | h1
    · have hm := mem_getD h1
      have e0 : (S.t.up.put x (-1)).l.getD i 0 = S.t.l.getD i 0 := old i h1
      rw [old i h1, hre _ hm] at hr
      obtain ⟨k', g1, g2, g3, g4⟩ := h.fo i h1 hr
      unfold Told
      show ∃ k', (S.t.up.put x (-1)).reason (absI ((S.t.up.put x (-1)).l.getD i 0)) = _ ∧ _ ∧ (S.t.up.put x (-1)).l.getD i 0 ∈ _ ∧ ∀ y ∈ _, y ≠ (S.t.up.put x (-1)).l.getD i 0 → -y ∈ (S.t.up.put x (-1)).l.take i
      rw [e0, hre _ hm]
      refine ⟨k', g1, g2, g3, fun y hy hne => ?_⟩
      rw [hl, List.take_append_of_le_length (by omega)]
      exact g4 y hy hne
    · obtain rfl : i = S.t.l.length := by simp at hi; omega
      have e0 : (S.t.l ++ [x]).getD S.t.l.length 0 = x := by simp [List.getD]
      rw [e0, hrx] at hr
      omega
  · have hy : y ∈ S.t.l ++ [x] := hy
    have hr : (S.t.up.put x (-1)).reason (absI y) < 0 := hr
    rcases List.mem_append.1 hy with hy | hy
    · rw [hre y hy] at hr
      exact hD _ (h.de y hy hr)
    · rw [List.mem_singleton.1 hy]; exact hDx
theorem take_at {l : List Int} {n i : Nat} (h : i < n) : (l.take n).getD i 0 = l.getD i 0 := by simp [List.getD, List.getElem?_take_of_lt h]
theorem Inv.back {og lc : List (List Int)} {D : Int → Prop} {N : Nat} {S : WS} (h : Inv og lc D N S) (level : Nat) (hN : N + 9 ≤ 100000000) : Pre og lc D (N + 9) { S with t := S.t.back level } := by
  rcases Nat.lt_or_ge level S.t.lv.length with hl | hl
  case inr => rw [back_same hl]; exact (h.mono (fun _ h => h) (by omega) hN).pre
  obtain ⟨h, h2⟩ := h
  obtain ⟨e1, e2, e3, e4, e5⟩ := back_l hl
  obtain ⟨P, hP⟩ : ∃ P : Nat, (P : Int) = S.t.lv.getD level 0 ∧ (P : Int) ∈ S.t.lv := by
    have hm : S.t.lv.getD level 0 ∈ S.t.lv := mem_getD hl
    have := h.ti.ok.lev _ hm
    exact ⟨(S.t.lv.getD level 0).toNat, by omega, by rw [Int.toNat_of_nonneg this.1]; exact hm⟩
  rw [← hP.1, Int.toNat_natCast] at e1 e3
  obtain ⟨-, hPm⟩ := hP
  have hPl : P < S.t.l.length := by have := h.ti.lvb _ hPm; omega
  have hti := h.ti.back level
  have hlen : (S.t.back level).l.length = P := by rw [e1, List.length_take]; omega
  have hdn : ∀ i, S.dn.length ≤ i → i < P → False := fun i h1 h2 => by have := h.un _ hPm i h1 (by omega); omega
  refine ⟨⟨hti.ok.wh, fun j hj hj2 => ?_, h.backOk.pos, h.backOk.sm⟩, ?_⟩
  · have hj2 : j < (S.t.back level).l.length := hj2
    rw [hlen] at hj2
    show _ = (S.t.back level).wh.getD j 0
    rw [e3, take_at hj2]; exact h.dw j hj
  unfold backF backN
  show Inv og lc D (N + 9) { t := S.t.back level, cl := S.cl, ls := S.ls, dn := S.dn.take (min S.dn.length (S.t.back level).l.length), bk := S.bk }
  rw [hlen]
  have hdl : (S.dn.take (min S.dn.length P)).length = min S.dn.length P := by rw [List.length_take]; omega
  refine ⟨⟨hti, h.on, h.og9, h.lo, h.cn, h.cp, h.ln, h.lb, ?_, hN, ?_, fun j hj => ?_, fun hb k' hl' => ?_, fun k' p hp => ?_, fun e he i hi1 hi2 => ?_, fun i hi hr => ?_, fun y hy hr => ?_⟩, h2⟩
  · have := h.n1
    have := h.ti.len
    show (S.t.back level).now ≤ ((N + 9 : Nat) : Int) + _
    rw [e4]; omega
  · show (S.dn.take _).length ≤ (S.t.back level).l.length
    rw [hdl, hlen]; omega
  · have hj : j < (S.dn.take (min S.dn.length P)).length := hj
    rw [hdl] at hj
    show (S.dn.take (min S.dn.length P)).getD j 0 = (S.t.back level).wh.getD j 0
    rw [e3, take_at hj, take_at (by omega)]; exact h.dw j (by omega)
  · obtain ⟨q, h1, h2, h3⟩ := h.one hb k' hl'
    have hq := h3 _ hPm
    refine ⟨q, by rw [hlen]; omega, by rw [e1, take_at (by omega)]; exact h2, fun e he => ?_⟩
    rw [e2] at he; exact h3 e (List.mem_of_mem_take he)
  · have hp : p < (S.dn.take (min S.dn.length P)).length := hp
    rw [hdl] at hp
    have htru : ∀ y, Tru S.t y p → Tru (S.t.back level) y p := fun y ⟨q, h1, h2, h3⟩ => by
      have hq : q < P := by
        rcases Nat.lt_or_ge q P with h | h
        · exact h
        · have := h3 _ hPm (by omega); omega
      exact ⟨q, by rw [hlen]; exact hq, by rw [e1, take_at hq]; exact h2, fun e he => by rw [e2] at he; exact h3 e (List.mem_of_mem_take he)⟩
    show ((S.cl.getD k' []).getD 0 0 = -((S.t.back level).l.getD p 0) → _) ∧ ((S.cl.getD k' []).getD 1 0 = -((S.t.back level).l.getD p 0) → _)
    rw [e1, take_at (by omega)]
    exact ⟨fun e => htru _ ((h.pr k' p (by omega)).1 e), fun e => htru _ ((h.pr k' p (by omega)).2 e)⟩
  · have hi1 : (S.dn.take (min S.dn.length P)).length ≤ i := hi1
    have hi2 : i < (S.t.back level).l.length := hi2
    rw [hdl] at hi1; rw [hlen] at hi2
    exact (hdn i (by omega) hi2).elim
  · have hi : i < (S.t.back level).l.length := hi
    have hi' := hi
    rw [hlen] at hi
    have hm := mem_getD hi'
    have hr : 0 ≤ (S.t.back level).reason (absI ((S.t.back level).l.getD i 0)) := hr
    have e0 : (S.t.back level).l.getD i 0 = S.t.l.getD i 0 := by rw [e1, take_at hi]
    rw [back_reason h.ti hl hm, e0] at hr
    obtain ⟨k', g1, g2, g3, g4⟩ := h.fo i (by omega) hr
    unfold Told
    show ∃ k', (S.t.back level).reason (absI ((S.t.back level).l.getD i 0)) = _ ∧ _ ∧ (S.t.back level).l.getD i 0 ∈ _ ∧ ∀ y ∈ _, y ≠ (S.t.back level).l.getD i 0 → -y ∈ (S.t.back level).l.take i
    rw [back_reason h.ti hl hm, e0]
    refine ⟨k', g1, g2, g3, fun y hy hne => ?_⟩
    rw [e1, List.take_take, Nat.min_eq_left (by omega)]
    exact g4 y hy hne
  · have hy : y ∈ (S.t.back level).l := hy
    have hr : (S.t.back level).reason (absI y) < 0 := hr
    rw [back_reason h.ti hl hy] at hr
    rw [e1] at hy
    exact h.de y (List.mem_of_mem_take hy) hr
theorem delF_at (id : Int) (x : Int) (hx : lit3 x) : ∀ (d : List Int), (∀ y ∈ d, lit3 y) → ∀ ls : List (List Int), (d.foldl (fun ls l => ls.set (slotN l) (without (ls.getD (slotN l) []) id)) ls).getD (slotN x) [] = if x ∈ d then without (ls.getD (slotN x) []) id else ls.getD (slotN x) []
  | [], _, ls => by simp
  | y :: d, hd, ls => by
    rw [List.foldl_cons, delF_at id x hx d (fun y hy => hd y (List.mem_cons_of_mem _ hy))]
    have hy3 := hd y List.mem_cons_self
    by_cases e : x = y
    · subst e
      have : (ls.set (slotN x) (without (ls.getD (slotN x) []) id)).getD (slotN x) [] = without (ls.getD (slotN x) []) id := by
        rcases Nat.lt_or_ge (slotN x) ls.length with h | h
        · exact getD_set_self _ _ _ _ h
        · rw [getD_nil_of (by rw [List.length_set]; exact h), getD_nil_of h]; rfl
      rw [this, if_pos List.mem_cons_self]
      split
      · unfold without; rw [List.filter_filter]; simp
      · rfl
    · rw [getD_set_ne _ _ _ _ _ (fun hs => e (slotN_inj hx hy3 hs.symm))]
      simp [e]
theorem mem_take2 {c : List Int} {x : Int} (hx : x ≠ 0) : x ∈ c.take 2 ↔ c.getD 0 0 = x ∨ c.getD 1 0 = x := by
  match c with
  | [] => simp; omega
  | [a] => simp; constructor
           · intro h; exact .inl h.symm
           · rintro (h | h)
             · exact h.symm
             · omega
  | a :: b :: r => simp; constructor
                   · rintro (h | h)
                     · exact .inl h.symm
                     · exact .inr h.symm
                   · rintro (h | h)
                     · exact .inl h.symm
                     · exact .inr h.symm
theorem Inv.remOk {og lc : List (List Int)} {D : Int → Prop} {N : Nat} {S : WS} (h : Inv og lc D N S) {k : Nat} (hk : S.cl.getD k [] ≠ []) : RemOk S k := by
  obtain ⟨h, h2⟩ := h
  obtain ⟨ho, hlo, hp, c9⟩ := h.cl9 hk
  have hwk : ∀ x, lit9 x → ((S.cl.getD k []).getD 0 0 = x ∨ (S.cl.getD k []).getD 1 0 = x) → (k : Int) ∈ S.ls.getD (slotN x) [] := fun x hx hw => ((h2 x hx).2 k).2 ⟨k, rfl, hw⟩
  refine ⟨fun x hx => (c9.li x hx).l3, by have := c9.len; omega, fun i hi2 hi => ?_, fun hl e => ?_, h.run.lb.mono (by omega)⟩
  · have hm := mem_getD hi
    have := hwk _ (c9.li _ hm) (by rcases (show i = 0 ∨ i = 1 by omega) with rfl | rfl; exact .inl rfl; exact .inr rfl)
    constructor
    · rcases Nat.lt_or_ge (slotN ((S.cl.getD k []).getD i 0)) S.ls.length with h | h
      · exact h
      · rw [getD_nil_of h] at this; simp at this
    · intro e; rw [e] at this; simp at this
  · have := nodup_at c9.nd (by omega) (by omega) e; omega
theorem Inv.remove {og lc : List (List Int)} {D : Int → Prop} {N : Nat} {S : WS} (h : Inv og lc D N S) {k : Nat} (hk : S.cl.getD k [] ≠ []) (hkl : k < lc.length) (hb : S.bk ≠ (k : Int)) : RemOk S k ∧ Inv og (lc.set k []) D N (removeF S k) := by
  obtain ⟨h, h2⟩ := h
  obtain ⟨ho, hlo, hp, c9⟩ := h.cl9 hk
  have hkc : k < S.cl.length := by rw [h.cn]; exact ho
  have hwk : ∀ x, lit9 x → ((S.cl.getD k []).getD 0 0 = x ∨ (S.cl.getD k []).getD 1 0 = x) → (k : Int) ∈ S.ls.getD (slotN x) [] := fun x hx hw => ((h2 x hx).2 k).2 ⟨k, rfl, hw⟩
  refine ⟨Inv.remOk ⟨h, h2⟩ hk, ?_⟩
  · unfold removeF
    rw [if_neg hb, if_neg hb]
    have hcl : ∀ k', (S.cl.set k []).getD k' [] = if k' = k then [] else S.cl.getD k' [] := fun k' => set_at _ _ _ hkc k'
    have hls : ∀ x, lit9 x → (delL S.ls (S.cl.getD k []) k 2).getD (slotN x) [] = if x ∈ (S.cl.getD k []).take 2 then without (S.ls.getD (slotN x) []) k else S.ls.getD (slotN x) [] := fun x hx => by
      unfold delL
      exact delF_at _ _ hx.l3 _ (fun y hy => (c9.li y (List.mem_of_mem_take hy)).l3) _
    refine ⟨⟨h.ti, h.on, h.og9, fun k' hk' => ?_, by rw [List.length_set]; exact h.cn, fun k' hk' => ?_, by show (delL _ _ _ _).length ≤ 20; rw [delL_len]; exact h.ln, fun s => ?_, h.n1, h.nb, h.dl, h.dw, fun hb k' hl' => ?_, fun k' p hp => ?_, h.un, h.fo, h.de⟩, fun x hx => ?_⟩
    · rw [set_at _ _ _ hkl]
      split
      · exact .inl rfl
      · exact h.lo k' hk'
    · show ((S.cl.set k []).getD k' []).Perm ((lc.set k []).getD k' [])
      rw [hcl, set_at _ _ _ hkl]
      split
      · exact .refl _
      · exact h.cp k' hk'
    · show ((delL S.ls (S.cl.getD k []) k 2).getD s []).length ≤ 80
      unfold delL
      have : ∀ (d : List Int) (ls : List (List Int)), (∀ s, (ls.getD s []).length ≤ 80) → ∀ s, ((d.foldl (fun ls l => ls.set (slotN l) (without (ls.getD (slotN l) []) k)) ls).getD s []).length ≤ 80 := by
        intro d
        induction d with
        | nil => intro ls h; exact h
        | cons y d ih =>
          intro ls h
          rw [List.foldl_cons]
          refine ih _ fun s => ?_
          by_cases e : slotN y = s
          · subst e
            rcases Nat.lt_or_ge (slotN y) ls.length with hl | hl
            · rw [getD_set_self _ _ _ _ hl]; exact Nat.le_trans (List.length_filter_le _ _) (h _)
            · rw [getD_nil_of (by rw [List.length_set]; exact hl)]; simp
          · rw [getD_set_ne _ _ _ _ _ e]; exact h s
      exact this _ _ h.lb s
    · revert hl'
      show ((S.cl.set k []).getD k' []).length = 1 → Base S.t (((S.cl.set k []).getD k' []).getD 0 0)
      rw [hcl]
      split
      · intro e; simp at e
      · exact h.one hb k'
    · have hpl := Nat.lt_of_lt_of_le hp h.dl
      have := (h.ti.li _ (mem_getD hpl)).1
      show (((S.cl.set k []).getD k' []).getD 0 0 = _ → Tru S.t (((S.cl.set k []).getD k' []).getD 1 0) p) ∧ (((S.cl.set k []).getD k' []).getD 1 0 = _ → Tru S.t (((S.cl.set k []).getD k' []).getD 0 0) p)
      rw [hcl]
      split
      · exact ⟨(fun e => by have e : (0 : Int) = -(S.t.l.getD p 0) := e; omega), (fun e => by have e : (0 : Int) = -(S.t.l.getD p 0) := e; omega)⟩
      · exact h.pr k' p hp
    · show WI (S.cl.set k []) x ((delL S.ls (S.cl.getD k []) k 2).getD (slotN x) [])
      rw [hls x hx]
      have hw := h2 x hx
      have hwat : ∀ k', Wat (S.cl.set k []) x k' ↔ k' ≠ k ∧ Wat S.cl x k' := fun k' => by
        rw [wat_set hkc]
        split
        · rename_i e
          exact ⟨fun q => by have := hx.1; simp at q; omega, fun q => absurd e q.1⟩
        · rename_i e; exact ⟨fun q => ⟨e, q⟩, fun q => q.2⟩
      by_cases hm : x ∈ (S.cl.getD k []).take 2
      · rw [if_pos hm]
        refine ⟨hw.1.sublist List.filter_sublist, fun id => ?_⟩
        unfold without
        rw [List.mem_filter, hw.2]
        constructor
        · rintro ⟨⟨k', rfl, hk'⟩, hne⟩
          refine ⟨k', rfl, (hwat k').2 ⟨fun e => ?_, hk'⟩⟩
          simp at hne; omega
        · rintro ⟨k', rfl, hk'⟩
          obtain ⟨q1, q2⟩ := (hwat k').1 hk'
          exact ⟨⟨k', rfl, q2⟩, by simp; omega⟩
      · rw [if_neg hm]
        refine ⟨hw.1, fun id => ?_⟩
        rw [hw.2]
        constructor
        · rintro ⟨k', rfl, hk'⟩
          refine ⟨k', rfl, (hwat k').2 ⟨fun e => ?_, hk'⟩⟩
          subst e
          exact hm ((mem_take2 hx.1).2 hk')
        · rintro ⟨k', rfl, hk'⟩
          exact ⟨k', rfl, ((hwat k').1 hk').2⟩
end Go.Proofs.Ytghlgegfokjgbaa
/-
  Package watch, PLAIN: what adding a clause keeps, ahead of every decision.
-/
namespace Go.Proofs.Ytghlgegfokjgbaa
open Go.ChangeShapes Go.WideShapes Go.ChangeAt Go.RowKit
set_option linter.unusedVariables false
set_option linter.unusedSimpArgs false
theorem value_sg {t : TS} (h : Signs t) (x : Int) : -1 ≤ t.value x ∧ t.value x ≤ 1 := by
  unfold TS.value
  have := mark_sg h (varOf x)
  split
  · rcases signOf_cases x with e | e <;> rw [e] <;> omega
  · omega
theorem stepF_ok {t : TS} (hs : Signs t) {c : List Int} {i k : Nat} (hik : i < k) (hk : k < c.length) :
    (stepF t i c k).Perm c ∧ (∀ j, j < i → (stepF t i c k).getD j 0 = c.getD j 0) ∧ t.value ((stepF t i c k).getD k 0) ≤ t.value ((stepF t i c k).getD i 0) ∧ t.value (c.getD i 0) ≤ t.value ((stepF t i c k).getD i 0) ∧
    ∀ j, i < j → j ≠ k → (stepF t i c k).getD j 0 = c.getD j 0 := by
  have h1 := value_sg hs (c.getD i 0)
  have h2 := value_sg hs (c.getD k 0)
  unfold stepF
  by_cases hb : bet t (c.getD k 0) (c.getD i 0) = true
  · rw [if_pos hb, sw_i (by omega) hk (by omega), sw_k hk]
    have : t.value (c.getD i 0) ≤ t.value (c.getD k 0) := by
      unfold bet at hb
      split at hb
      · omega
      · have := of_decide_eq_true hb; omega
    exact ⟨sw_perm (by omega) hk, fun j hj => sw_o (by omega) (by omega), this, this, fun j h1 h2 => sw_o (by omega) (by omega)⟩
  · rw [if_neg hb]
    refine ⟨.refl _, fun _ _ => rfl, ?_, Int.le_refl _, fun _ _ _ => rfl⟩
    unfold bet at hb
    split at hb
    · omega
    · have := of_decide_eq_false (Bool.not_eq_true _ ▸ hb); omega
theorem innF_ok {t : TS} (hs : Signs t) {c : List Int} {i : Nat} (hi : i < c.length) : ∀ m, i + 1 + m ≤ c.length →
    (innF t i c (i + 1 + m)).Perm c ∧ (∀ j, j < i → (innF t i c (i + 1 + m)).getD j 0 = c.getD j 0) ∧ ∀ j, i < j → j < i + 1 + m → t.value ((innF t i c (i + 1 + m)).getD j 0) ≤ t.value ((innF t i c (i + 1 + m)).getD i 0)
  | 0, _ => by
    rw [Nat.add_zero, innF_start]
    exact ⟨.refl _, fun _ _ => rfl, fun j h1 h2 => by omega⟩
  | m + 1, hm => by
    obtain ⟨p1, p2, p3⟩ := innF_ok hs hi m (by omega)
    rw [show i + 1 + (m + 1) = (i + 1 + m) + 1 by omega, innF_step t i c (i + 1 + m) (by omega)]
    obtain ⟨q1, q2, q3, q4, q5⟩ := stepF_ok hs (c := innF t i c (i + 1 + m)) (i := i) (k := i + 1 + m) (by omega) (by rw [innF_len]; omega)
    refine ⟨q1.trans p1, fun j hj => (q2 j hj).trans (p2 j hj), fun j h1 h2 => ?_⟩
    rcases (show j < i + 1 + m ∨ j = i + 1 + m by omega) with h | rfl
    · rw [q5 j h1 (by omega)]; have := p3 j h1 h; omega
    · exact q3
theorem innF_all {t : TS} (hs : Signs t) {c : List Int} {i : Nat} (hi : i < c.length) :
    (innF t i c c.length).Perm c ∧ (∀ j, j < i → (innF t i c c.length).getD j 0 = c.getD j 0) ∧ ∀ j, i < j → j < c.length → t.value ((innF t i c c.length).getD j 0) ≤ t.value ((innF t i c c.length).getD i 0) := by
  have := innF_ok hs hi (c.length - (i + 1)) (by omega)
  rwa [show i + 1 + (c.length - (i + 1)) = c.length by omega] at this
/-- The two best ones stand first. -/
theorem first_ok {t : TS} (hs : Signs t) {c : List Int} (hc : c ≠ []) : (firF t c (min 2 c.length)).Perm c ∧ (∀ y ∈ firF t c (min 2 c.length), t.value y ≤ t.value ((firF t c (min 2 c.length)).getD 0 0)) ∧
    ∀ j, 1 ≤ j → j < c.length → t.value ((firF t c (min 2 c.length)).getD j 0) ≤ t.value ((firF t c (min 2 c.length)).getD 1 0) := by
  have h0 := List.length_pos_iff.2 hc
  obtain ⟨p1, p2, p3⟩ := innF_all hs (c := c) (i := 0) h0
  have e1 : firF t c 1 = innF t 0 c c.length := by rw [firF_step]; rfl
  obtain ⟨c1, hc1⟩ : ∃ c1, c1 = innF t 0 c c.length := ⟨_, rfl⟩
  rw [← hc1] at p1 p2 p3 e1
  have all1 : ∀ y ∈ c1, t.value y ≤ t.value (c1.getD 0 0) := fun y hy => by
    obtain ⟨j, hj, rfl⟩ := List.getElem_of_mem hy
    rw [← getD_mem' hj]
    rcases Nat.eq_zero_or_pos j with e | e
    · rw [e]; exact Int.le_refl _
    · exact p3 j e (by rw [← p1.length_eq]; exact hj)
  rcases (show c.length = 1 ∨ 2 ≤ c.length by omega) with h1 | h2
  · rw [show min 2 c.length = 1 by omega, e1]
    exact ⟨p1, all1, fun j h1 h2 => by omega⟩
  · rw [show min 2 c.length = 1 + 1 by omega, firF_step, e1]
    have hl := p1.length_eq
    obtain ⟨q1, q2, q3⟩ := innF_all hs (c := c1) (i := 1) (by omega)
    rw [hl] at q1 q2 q3
    refine ⟨q1.trans p1, fun y hy => ?_, fun j h1 h2 => ?_⟩
    · rw [q2 0 (by omega)]; exact all1 y (q1.mem_iff.1 hy)
    · rcases (show j = 1 ∨ 1 < j by omega) with rfl | h
      · exact Int.le_refl _
      · exact q3 j h h2
/-- A watch that clauses are added to. -/
structure AInv (og : List (List Int)) (N : Nat) (S : WS) : Prop where
  inv : Inv og og (fun _ => False) N S
  lv : S.t.lv = []
  dn : S.dn = []
  bm : -1 ≤ S.bk
  br : 0 ≤ S.bk → ∃ k : Nat, S.bk = (k : Int) ∧ k < og.length ∧ ∀ y ∈ og.getD k [], -y ∈ S.t.l
theorem AInv.new : AInv [] 0 (wNew (TS.new 9)) := by
  refine ⟨⟨⟨TI.new, by simp, fun k hk => by simp at hk, fun k hk => by simp at hk, rfl, fun k hk => by simp at hk, by simp [wNew], fun s => by simp [wNew], by simp [wNew, TS.new], by omega, by simp [wNew], fun j hj => by simp [wNew] at hj, fun hb k hl => by simp [wNew] at hl, fun k p hp => by simp [wNew] at hp, fun e he => by simp [wNew, TS.new] at he, fun i hi => by simp [wNew, TS.new] at hi, fun x hx => by simp [wNew, TS.new] at hx⟩, fun x hx => ⟨by simp [wNew], fun id => ?_⟩⟩, rfl, rfl, by simp [wNew], fun h => by simp [wNew] at h⟩
  constructor
  · intro h; simp [wNew] at h
  · rintro ⟨k, rfl, hk⟩
    have := hx.1
    unfold Wat at hk; simp [wNew] at hk; omega
theorem getD_app_l {α : Type} (l : List α) (x d : α) {k : Nat} (h : k < l.length) : (l ++ [x]).getD k d = l.getD k d := by simp [List.getD, List.getElem?_append_left h]
theorem getD_app_n {α : Type} (l : List α) (x d : α) : (l ++ [x]).getD l.length d = x := by simp [List.getD]
theorem putF_at (id : Int) (x : Int) (hx : lit3 x) : ∀ (d : List Int), (∀ y ∈ d, lit3 y) → d.Nodup → ∀ ls : List (List Int), (d.foldl (fun ls l => putL ls (slotN l) id) ls).getD (slotN x) [] = if x ∈ d then ls.getD (slotN x) [] ++ [id] else ls.getD (slotN x) []
  | [], _, _, ls => by simp
  | y :: d, hd, hn, ls => by
    rw [List.nodup_cons] at hn
    rw [List.foldl_cons, putF_at id x hx d (fun y hy => hd y (List.mem_cons_of_mem _ hy)) hn.2, putL_at]
    have hy3 := hd y List.mem_cons_self
    by_cases e : x = y
    · subst e
      rw [if_neg hn.1, if_pos rfl, if_pos List.mem_cons_self]
    · rw [if_neg (fun hs => e (slotN_inj hx hy3 hs))]
      simp [e]
theorem putF_no (id : Int) (s : Nat) : ∀ (d : List Int), (∀ y ∈ d, slotN y ≠ s) → ∀ ls : List (List Int), (d.foldl (fun ls l => putL ls (slotN l) id) ls).getD s [] = ls.getD s []
  | [], _, ls => rfl
  | y :: d, hd, ls => by
    rw [List.foldl_cons, putF_no id s d (fun y hy => hd y (List.mem_cons_of_mem _ hy)), putL_at, if_neg (Ne.symm (hd y List.mem_cons_self))]
theorem putF_len (id : Int) : ∀ (d : List Int), (∀ y ∈ d, lit9 y) → ∀ ls : List (List Int), ls.length ≤ 20 → (d.foldl (fun ls l => putL ls (slotN l) id) ls).length ≤ 20
  | [], _, ls, h => h
  | y :: d, hd, ls, h => by
    rw [List.foldl_cons]
    refine putF_len id d (fun y hy => hd y (List.mem_cons_of_mem _ hy)) _ ?_
    rw [putL_len]; have := slotN9 (hd y List.mem_cons_self); omega
theorem impT_cases (t : TS) (x r : Int) : (impT t x r = t ∧ t.isFree x = false) ∨ (impT t x r = t.put x r ∧ t.isFree x = true) := by
  unfold impT
  cases h : t.isFree x
  · exact .inl ⟨if_neg (by simp), rfl⟩
  · exact .inr ⟨if_pos rfl, rfl⟩
theorem AInv.add {og : List (List Int)} {N : Nat} {S : WS} (h : AInv og N S) {c : List Int} (hc : C9 c) (hog : og.length < 80) : AInv (og ++ [c]) N (addF S c) := by
  obtain ⟨⟨h, h2⟩, hlv, hdn, hbm, hbr⟩ := h
  have hb0 : ∀ y, y ∈ S.t.l → Base S.t y := fun y hy => by
    obtain ⟨q, hq, rfl⟩ := List.getElem_of_mem hy
    exact ⟨q, hq, getD_mem' hq, fun e he => by rw [hlv] at he; simp at he⟩
  obtain ⟨p1, p2, p3⟩ := first_ok h.ti.sg hc.ne
  obtain ⟨c', hc'⟩ : ∃ c', c' = firF S.t c (min 2 c.length) := ⟨_, rfl⟩
  unfold addF
  simp only
  rw [← hc'] at p1 p2 p3 ⊢
  have hlen := p1.length_eq
  have h0 := List.length_pos_iff.2 hc.ne
  have c9 : C9 c' := ⟨fun e => by rw [e] at hlen; simp at hlen; omega, fun x hx => hc.li x (p1.mem_iff.1 hx), p1.nodup_iff.2 hc.nd, fun x hx hn => hc.cons x (p1.mem_iff.1 hx) (p1.mem_iff.1 hn), by rw [hlen]; exact hc.len⟩
  obtain ⟨n, hn⟩ : ∃ n, n = S.cl.length := ⟨_, rfl⟩
  have hno : n = og.length := by rw [hn, h.cn]
  rw [← hn]
  have hcl : ∀ k, (S.cl ++ [c']).getD k [] = if k = n then c' else S.cl.getD k [] := fun k => by
    by_cases e : k = n
    · rw [if_pos e, e, hn, getD_app_n]
    · rw [if_neg e]
      rcases Nat.lt_or_ge k n with h | h
      · exact getD_app_l _ _ _ (by omega)
      · rw [getD_nil_of (by simp; omega), getD_nil_of (by omega)]
  have hogk : ∀ k, k < og.length → (og ++ [c]).getD k [] = og.getD k [] := fun k hk => getD_app_l _ _ _ hk
  have hogn : (og ++ [c]).getD n [] = c := by rw [hno, getD_app_n]
  have h0c : c'.getD 0 0 ∈ c' := mem_getD (by omega)
  have h09 := c9.li _ h0c
  -- who watches
  have d3 : ∀ y ∈ c'.take 2, lit9 y := fun y hy => c9.li y (List.mem_of_mem_take hy)
  have hls : ∀ x, lit9 x → (watchL S.ls c' n 2).getD (slotN x) [] = if x ∈ c'.take 2 then S.ls.getD (slotN x) [] ++ [(n : Int)] else S.ls.getD (slotN x) [] := fun x hx => by
    unfold watchL
    exact putF_at _ _ hx.l3 _ (fun y hy => (d3 y hy).l3) (c9.nd.sublist (List.take_sublist _ _)) _
  have hwi : ∀ x, lit9 x → WI (S.cl ++ [c']) x ((watchL S.ls c' n 2).getD (slotN x) []) := fun x hx => by
    have hw := h2 x hx
    have hwat : ∀ k, Wat (S.cl ++ [c']) x k ↔ if k = n then x ∈ c'.take 2 else Wat S.cl x k := fun k => by
      unfold Wat
      rw [hcl]
      split
      · exact (mem_take2 hx.1).symm
      · exact Iff.rfl
    have hlt : ∀ k, Wat S.cl x k → k ≠ n := fun k hk e => by have := hk.lt hx.1; omega
    rw [hls x hx]
    by_cases hm : x ∈ c'.take 2
    · rw [if_pos hm]
      refine ⟨?_, fun id => ?_⟩
      · rw [List.nodup_append]
        refine ⟨hw.1, by simp, fun a ha b hb => ?_⟩
        rw [List.mem_singleton.1 hb]
        rintro rfl
        obtain ⟨k, e, hk⟩ := (hw.2 _).1 ha
        exact hlt k hk (by omega)
      · rw [List.mem_append, hw.2, List.mem_singleton]
        constructor
        · rintro (⟨k, rfl, hk⟩ | rfl)
          · exact ⟨k, rfl, (hwat k).2 (by rw [if_neg (hlt k hk)]; exact hk)⟩
          · exact ⟨n, rfl, (hwat n).2 (by rw [if_pos rfl]; exact hm)⟩
        · rintro ⟨k, rfl, hk⟩
          rw [hwat] at hk
          by_cases e : k = n
          · exact .inr (by rw [e])
          · rw [if_neg e] at hk; exact .inl ⟨k, rfl, hk⟩
    · rw [if_neg hm]
      refine ⟨hw.1, fun id => ?_⟩
      rw [hw.2]
      constructor
      · rintro ⟨k, rfl, hk⟩
        exact ⟨k, rfl, (hwat k).2 (by rw [if_neg (hlt k hk)]; exact hk)⟩
      · rintro ⟨k, rfl, hk⟩
        rw [hwat] at hk
        by_cases e : k = n
        · rw [if_pos e] at hk; exact absurd hk hm
        · rw [if_neg e] at hk; exact ⟨k, rfl, hk⟩
  have hln : (watchL S.ls c' n 2).length ≤ 20 := putF_len _ _ d3 _ h.ln
  have hlb : ∀ s, ((watchL S.ls c' n 2).getD s []).length ≤ 80 := fun s => by
    by_cases e : ∃ y ∈ c'.take 2, slotN y = s
    · obtain ⟨y, hy, rfl⟩ := e
      have := (hwi y (d3 y hy)).len (d3 y hy).1
      rw [List.length_append, List.length_singleton] at this
      omega
    · unfold watchL
      rw [putF_no _ _ _ (fun y hy e2 => e ⟨y, hy, e2⟩)]
      exact h.lb s
  -- the watch, but for what is told
  have i1 : Inv0 (og ++ [c]) (og ++ [c]) (fun _ => False) N { t := S.t, cl := S.cl ++ [c'], ls := watchL S.ls c' n 2, dn := S.dn, bk := 0 } := by
    refine ⟨h.ti, by simp; omega, fun k hk => ?_, fun k hk => .inr rfl, by simp [h.cn], fun k hk => ?_, hln, hlb, h.n1, h.nb, h.dl, h.dw, fun hb => absurd hb (by simp), fun k p hp => ?_, h.un, fun i hi hr => ?_, h.de⟩
    · rw [List.length_append] at hk; simp at hk
      rcases Nat.lt_or_ge k og.length with hk2 | hk2
      · rw [hogk k hk2]; exact h.og9 k hk2
      · obtain rfl : k = n := by omega
        rw [hogn]; exact hc
    · rw [List.length_append] at hk; simp at hk
      show ((S.cl ++ [c']).getD k []).Perm _
      rw [hcl]
      split
      · rename_i e; subst e; rw [hogn]; exact p1
      · rw [hogk k (by omega)]; exact h.cp k (by omega)
    · rw [hdn] at hp; simp at hp
    · obtain ⟨k, g1, g2, g3, g4⟩ := h.fo i hi hr
      exact ⟨k, g1, by simp; omega, by rw [hogk k g2]; exact g3, by rw [hogk k g2]; exact g4⟩
  obtain ⟨t', ht'⟩ : ∃ t', t' = (if S.t.value (c'.getD 0 0) = 0 ∧ (c.length = 1 ∨ S.t.value (c'.getD 1 0) < 0) then impT S.t (c'.getD 0 0) (n : Int) else S.t) := ⟨_, rfl⟩
  rw [← ht']
  have i2 : Inv0 (og ++ [c]) (og ++ [c]) (fun _ => False) N { t := t', cl := S.cl ++ [c'], ls := watchL S.ls c' n 2, dn := S.dn, bk := 0 } ∧ t'.lv = [] ∧ (∀ y, y ∈ S.t.l → y ∈ t'.l) ∧ (c.length = 1 → S.t.value (c'.getD 0 0) = 0 → c'.getD 0 0 ∈ t'.l) := by
    rw [ht']
    split
    · rename_i hif
      obtain ⟨hv0, hv1⟩ := hif
      have hfr := (free9 h.ti.ms h09).2 hv0
      have e : impT S.t (c'.getD 0 0) n = S.t.put (c'.getD 0 0) n := by unfold impT; rw [if_pos hfr]
      rw [e]
      refine ⟨i1.put (k := n) (by simp; omega) (by rw [hogn]; exact p1.mem_iff.1 h0c) hv0 (fun y hy hne => ?_), hlv, fun y hy => List.mem_append_left _ hy, fun _ _ => ?_⟩
      · rw [hogn] at hy
        obtain ⟨j, hj, rfl⟩ := List.getElem_of_mem (p1.mem_iff.2 hy)
        have hm : c'[j] ∈ c' := List.getElem_mem hj
        refine (h.ti.lt0 (c9.li _ hm)).1 ?_
        rw [← getD_mem' hj] at hne ⊢
        have hj0 : j ≠ 0 := fun e => hne (by rw [e])
        rcases hv1 with e | e
        · omega
        · have := p3 j (by omega) (by omega); omega
      · show _ ∈ S.t.l ++ [_]; simp
    · rename_i hif
      exact ⟨i1, hlv, fun y hy => hy, fun hl hv => absurd ⟨hv, .inl hl⟩ hif⟩
  obtain ⟨i2, lv2, sub2, one2⟩ := i2
  have hb2 : ∀ y, y ∈ t'.l → Base t' y := fun y hy => by
    obtain ⟨q, hq, rfl⟩ := List.getElem_of_mem hy
    exact ⟨q, hq, getD_mem' hq, fun e he => by rw [lv2] at he; simp at he⟩
  refine ⟨⟨⟨i2.ti, i2.on, i2.og9, i2.lo, i2.cn, i2.cp, i2.ln, i2.lb, i2.n1, i2.nb, i2.dl, i2.dw, fun hb k hl => ?_, i2.pr, i2.un, i2.fo, i2.de⟩, hwi⟩, lv2, hdn, ?_, fun hb => ?_⟩
  · have hb : (if S.t.value (c'.getD 0 0) < 0 then (n : Int) else S.bk) < 0 := hb
    revert hl
    show ((S.cl ++ [c']).getD k []).length = 1 → Base t' (((S.cl ++ [c']).getD k []).getD 0 0)
    rw [hcl]
    by_cases hv : S.t.value (c'.getD 0 0) < 0
    · rw [if_pos hv] at hb; omega
    · rw [if_neg hv] at hb
      split
      · intro hl
        refine hb2 _ ?_
        rcases value_cases h.ti.ms h.ti.sg h09 with e | e | e
        · exact sub2 _ ((h.ti.val _ h09).1 e)
        · exact one2 (by omega) e
        · omega
      · intro hl
        exact hb2 _ (sub2 _ (h.one hb k hl).mem)
  · show -1 ≤ (if S.t.value (c'.getD 0 0) < 0 then (n : Int) else S.bk)
    split
    · omega
    · exact hbm
  · revert hb
    show 0 ≤ (if S.t.value (c'.getD 0 0) < 0 then (n : Int) else S.bk) → ∃ k : Nat, (if S.t.value (c'.getD 0 0) < 0 then (n : Int) else S.bk) = (k : Int) ∧ k < (og ++ [c]).length ∧ ∀ y ∈ (og ++ [c]).getD k [], -y ∈ t'.l
    split
    · rename_i hv
      intro _
      refine ⟨n, rfl, by simp; omega, fun y hy => ?_⟩
      rw [hogn] at hy
      have := p2 y (p1.mem_iff.2 hy)
      exact sub2 _ ((h.ti.lt0 (hc.li y hy)).1 (by omega))
    · intro hb
      obtain ⟨k, g1, g2, g3⟩ := hbr hb
      exact ⟨k, g1, by simp; omega, fun y hy => by rw [hogk k g2] at hy; exact sub2 _ (g3 y hy)⟩
end Go.Proofs.Ytghlgegfokjgbaa
