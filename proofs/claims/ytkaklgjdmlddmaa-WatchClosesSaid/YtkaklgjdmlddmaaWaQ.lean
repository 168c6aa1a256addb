/-
  Package watch, PLAIN: what a watch keeps, from one Run to the next.
-/
import Derived.Test.YtkaklgjdmlddmaaWaN
import Derived.Test.YtkaklgjdmlddmaaWaP
namespace Go.Proofs.Ytkaklgjdmlddmaa
open Go.ChangeShapes Go.WideShapes Go.ChangeAt Go.RowKit
set_option linter.unusedVariables false
set_option linter.unusedSimpArgs false
/-- A clause as it may come. -/
structure C9 (c : List Int) : Prop where
  ne : c ≠ []
  li : ∀ x ∈ c, lit9 x
  nd : c.Nodup
  cons : ∀ x ∈ c, -x ∉ c
  len : c.length ≤ 30
/-- A clause (by its number) watches a literal. -/
def Wat (cl : List (List Int)) (x : Int) (k : Nat) : Prop := (cl.getD k []).getD 0 0 = x ∨ (cl.getD k []).getD 1 0 = x
/-- The numbers of those that watch x. -/
def WI (cl : List (List Int)) (x : Int) (L : List Int) : Prop := L.Nodup ∧ ∀ id : Int, id ∈ L ↔ ∃ k : Nat, id = (k : Int) ∧ Wat cl x k
/-- True at a place that no later level than p's has. -/
def Tru (t : TS) (y : Int) (p : Nat) : Prop := ∃ q : Nat, q < t.l.length ∧ t.l.getD q 0 = y ∧ ∀ e ∈ t.lv, e ≤ (q : Int) → e ≤ (p : Int)
/-- True below all decisions. -/
def Base (t : TS) (y : Int) : Prop := ∃ q : Nat, q < t.l.length ∧ t.l.getD q 0 = y ∧ ∀ e ∈ t.lv, (q : Int) < e
theorem Tru.mem {t : TS} {y : Int} {p : Nat} (h : Tru t y p) : y ∈ t.l := by
  obtain ⟨q, h1, rfl, -⟩ := h; rw [getD_mem' h1]; exact List.getElem_mem h1
theorem Base.mem {t : TS} {y : Int} (h : Base t y) : y ∈ t.l := by
  obtain ⟨q, h1, rfl, -⟩ := h; rw [getD_mem' h1]; exact List.getElem_mem h1
/-- The clause that tells a literal with a reason, by those ahead. -/
def Told (og : List (List Int)) (t : TS) (i : Nat) : Prop :=
  ∃ k : Nat, t.reason (absI (t.l.getD i 0)) = (k : Int) ∧ k < og.length ∧ t.l.getD i 0 ∈ og.getD k [] ∧ ∀ y ∈ og.getD k [], y ≠ t.l.getD i 0 → -y ∈ t.l.take i
/-- What a watch's data keep, but for who watches: og: the clauses as they came; lc: those, removed ones empty; D: what may be decided; N: a bound on how often. -/
structure Inv0 (og lc : List (List Int)) (D : Int → Prop) (N : Nat) (S : WS) : Prop where
  ti : TI S.t
  on : og.length ≤ 80
  og9 : ∀ k, k < og.length → C9 (og.getD k [])
  lo : ∀ k, k < og.length → lc.getD k [] = [] ∨ lc.getD k [] = og.getD k []
  cn : S.cl.length = og.length
  cp : ∀ k, k < og.length → (S.cl.getD k []).Perm (lc.getD k [])
  ln : S.ls.length ≤ 20
  lb : ∀ s, (S.ls.getD s []).length ≤ 80
  n1 : S.t.now ≤ (N : Int) + (S.t.l.length : Int)
  nb : N ≤ 100000000
  dl : S.dn.length ≤ S.t.l.length
  dw : ∀ j, j < S.dn.length → S.dn.getD j 0 = S.t.wh.getD j 0
  one : S.bk < 0 → ∀ k, (S.cl.getD k []).length = 1 → Base S.t ((S.cl.getD k []).getD 0 0)
  pr : ∀ k p, p < S.dn.length → ((S.cl.getD k []).getD 0 0 = -(S.t.l.getD p 0) → Tru S.t ((S.cl.getD k []).getD 1 0) p) ∧ ((S.cl.getD k []).getD 1 0 = -(S.t.l.getD p 0) → Tru S.t ((S.cl.getD k []).getD 0 0) p)
  un : ∀ e ∈ S.t.lv, ∀ i : Nat, S.dn.length ≤ i → i < S.t.l.length → e ≤ (i : Int)
  fo : ∀ i, i < S.t.l.length → 0 ≤ S.t.reason (absI (S.t.l.getD i 0)) → Told og S.t i
  de : ∀ x ∈ S.t.l, S.t.reason (absI x) < 0 → D x
def Inv (og lc : List (List Int)) (D : Int → Prop) (N : Nat) (S : WS) : Prop := Inv0 og lc D N S ∧ ∀ x, lit9 x → WI S.cl x (S.ls.getD (slotN x) [])
structure RJ (og lc : List (List Int)) (D : Int → Prop) (N : Nat) (S : WS) (L : List Int) : Prop where
  i0 : Inv0 og lc D N S
  bk : S.bk < 0
  dl : S.dn.length < S.t.l.length
  sl : slotOf S < S.ls.length
  wi : ∀ x, lit9 x → x ≠ wrongOf S → WI S.cl x (S.ls.getD (slotN x) [])
  ww : WI S.cl (wrongOf S) L
structure RInv (og lc : List (List Int)) (D : Int → Prop) (N : Nat) (S : WS) (keep rest : List Int) : Prop where
  j : RJ og lc D N S (keep ++ rest)
  kp : ∀ k : Nat, (k : Int) ∈ keep → ((S.cl.getD k []).getD 0 0 = wrongOf S → (S.cl.getD k []).getD 1 0 ∈ S.t.l) ∧ ((S.cl.getD k []).getD 1 0 = wrongOf S → (S.cl.getD k []).getD 0 0 ∈ S.t.l)
theorem getD_nil_of {l : List (List Int)} {k : Nat} (h : l.length ≤ k) : l.getD k [] = [] := by simp [List.getD, h]
theorem Wat.lt {cl : List (List Int)} {x : Int} {k : Nat} (h : Wat cl x k) (hx : x ≠ 0) : k < cl.length := by
  rcases Nat.lt_or_ge k cl.length with h1 | h1
  · exact h1
  · unfold Wat at h; rw [getD_nil_of h1] at h; simp at h; omega
theorem WI.len {cl : List (List Int)} {x : Int} {L : List Int} (h : WI cl x L) (hx : x ≠ 0) : L.length ≤ cl.length := by
  have := h.1.length_le_of_subset (l₂ := (List.range cl.length).map fun k : Nat => (k : Int)) (fun id hid => by
    obtain ⟨k, rfl, hk⟩ := (h.2 id).1 hid
    exact List.mem_map.2 ⟨k, List.mem_range.2 (hk.lt hx), rfl⟩)
  simpa using this
/-- A clause that is there, and its literals. -/
theorem Inv0.cl9 {og lc : List (List Int)} {D : Int → Prop} {N : Nat} {S : WS} (h : Inv0 og lc D N S) {k : Nat} (hk : S.cl.getD k [] ≠ []) : k < og.length ∧ lc.getD k [] = og.getD k [] ∧ (S.cl.getD k []).Perm (og.getD k []) ∧ C9 (S.cl.getD k []) := by
  have h1 : k < og.length := by
    rcases Nat.lt_or_ge k og.length with h1 | h1
    · exact h1
    · exact absurd (getD_nil_of (by rw [h.cn]; exact h1)) hk
  have h2 := h.cp k h1
  have h3 : lc.getD k [] = og.getD k [] := by
    rcases h.lo k h1 with e | e
    · rw [e] at h2; exact absurd h2.eq_nil hk
    · exact e
  rw [h3] at h2
  have h4 := h.og9 k h1
  exact ⟨h1, h3, h2, hk, fun x hx => h4.li x (h2.mem_iff.1 hx), h2.nodup_iff.2 h4.nd, fun x hx hn => h4.cons x (h2.mem_iff.1 hx) (h2.mem_iff.1 hn), by rw [h2.length_eq]; exact h4.len⟩
theorem mem_getD {l : List Int} {i : Nat} (h : i < l.length) : l.getD i 0 ∈ l := by rw [getD_mem' h]; exact List.getElem_mem h
theorem nodup_at {l : List Int} (hn : l.Nodup) {i j : Nat} (hi : i < l.length) (hj : j < l.length) (h : l.getD i 0 = l.getD j 0) : i = j := by
  rw [getD_mem' hi, getD_mem' hj] at h
  exact (List.getElem_inj hn).1 h
theorem Inv0.run {og lc : List (List Int)} {D : Int → Prop} {N : Nat} {S : WS} (h : Inv0 og lc D N S) : RunB S := by
  have hl := h.ti.len
  have hw := h.ti.ok.wh
  have hn := h.n1
  have hb := h.nb
  exact ⟨h.ti.sg, ⟨by omega, by omega, h.ti.ok.now0, by omega⟩, hw, h.dl, fun x hx => (h.ti.li x hx).l3, by have := h.ln; omega, fun s => by have := h.lb s; omega⟩
theorem Inv0.wrong9 {og lc : List (List Int)} {D : Int → Prop} {N : Nat} {S : WS} (h : Inv0 og lc D N S) (hd : S.dn.length < S.t.l.length) : lit9 (wrongOf S) ∧ -wrongOf S ∈ S.t.l ∧ S.t.l.getD S.dn.length 0 = -wrongOf S := by
  have h1 := mem_getD hd
  have h2 := h.ti.li _ h1
  unfold wrongOf
  rw [Int.neg_neg]
  exact ⟨h2.neg, h1, rfl⟩
/-- What was gone through, one more. -/
theorem Inv0.push {og lc : List (List Int)} {D : Int → Prop} {N : Nat} {S : WS} (h : Inv0 og lc D N S) (hd : S.dn.length < S.t.l.length)
    (hp : ∀ k, ((S.cl.getD k []).getD 0 0 = wrongOf S → (S.cl.getD k []).getD 1 0 ∈ S.t.l) ∧ ((S.cl.getD k []).getD 1 0 = wrongOf S → (S.cl.getD k []).getD 0 0 ∈ S.t.l)) : Inv0 og lc D N (pushDn S) := by
  have hlen : (pushDn S).dn.length = S.dn.length + 1 := by unfold pushDn; simp
  have tru : ∀ y, y ∈ S.t.l → Tru S.t y S.dn.length := fun y hy => by
    obtain ⟨q, hq, rfl⟩ := List.getElem_of_mem hy
    exact ⟨q, hq, getD_mem' hq, fun e he _ => h.un e he _ (Nat.le_refl _) hd⟩
  refine ⟨h.ti, h.on, h.og9, h.lo, h.cn, h.cp, h.ln, h.lb, h.n1, h.nb, by rw [hlen]; exact hd, fun j hj => ?_, h.one, fun k p hpl => ?_, fun e he i hi1 hi2 => h.un e he i (by rw [hlen] at hi1; omega) hi2, h.fo, h.de⟩
  · rw [hlen] at hj
    show (S.dn ++ [S.t.wh.getD S.dn.length 0]).getD j 0 = S.t.wh.getD j 0
    rcases Nat.lt_or_ge j S.dn.length with h1 | h1
    · rw [← h.dw j h1]; simp [List.getD, List.getElem?_append_left h1]
    · obtain rfl : j = S.dn.length := by omega
      simp [List.getD]
  · rw [hlen] at hpl
    rcases Nat.lt_or_ge p S.dn.length with h1 | h1
    · exact h.pr k p h1
    · obtain rfl : p = S.dn.length := by omega
      show ((S.cl.getD k []).getD 0 0 = wrongOf S → _) ∧ ((S.cl.getD k []).getD 1 0 = wrongOf S → _)
      exact ⟨fun e => tru _ ((hp k).1 e), fun e => tru _ ((hp k).2 e)⟩
theorem Inv.skip {og lc : List (List Int)} {D : Int → Prop} {N : Nat} {S : WS} (h : Inv og lc D N S) (hd : S.dn.length < S.t.l.length) (hs : S.ls.length ≤ slotOf S) : Inv og lc D N (pushDn S) := by
  obtain ⟨w9, -, -⟩ := h.1.wrong9 hd
  have hno : ∀ k, ¬ Wat S.cl (wrongOf S) k := fun k hk => by
    have := ((h.2 _ w9).2 k).2 ⟨k, rfl, hk⟩
    rw [show S.ls.getD (slotN (wrongOf S)) [] = [] from getD_nil_of hs] at this
    simp at this
  exact ⟨h.1.push hd fun k => ⟨fun e => absurd (.inl e) (hno k), fun e => absurd (.inr e) (hno k)⟩, h.2⟩
theorem Inv.start {og lc : List (List Int)} {D : Int → Prop} {N : Nat} {S : WS} (h : Inv og lc D N S) (hb : S.bk < 0) (hd : S.dn.length < S.t.l.length) (hs : slotOf S < S.ls.length) : RInv og lc D N S [] (S.ls.getD (slotOf S) []) := by
  obtain ⟨w9, -, -⟩ := h.1.wrong9 hd
  exact ⟨⟨h.1, hb, hd, hs, fun x hx _ => h.2 x hx, by rw [List.nil_append]; exact h.2 _ w9⟩, fun k hk => by simp at hk⟩
theorem RInv.rb {og lc : List (List Int)} {D : Int → Prop} {N : Nat} {S : WS} {keep rest : List Int} (h : RInv og lc D N S keep rest) : RunB S ∧ S.dn.length < S.t.l.length ∧ slotOf S < S.ls.length ∧ keep.length + rest.length ≤ 1000 := by
  obtain ⟨h, -⟩ := h
  obtain ⟨w9, -, -⟩ := h.i0.wrong9 h.dl
  have := h.ww.len w9.1
  rw [List.length_append, h.i0.cn] at this
  have := h.i0.on
  exact ⟨h.i0.run, h.dl, h.sl, by omega⟩
/-- The lists, with this one laid back, are right again. -/
theorem RJ.close {og lc : List (List Int)} {D : Int → Prop} {N : Nat} {S : WS} {L : List Int} (h : RJ og lc D N S L) : Inv og lc D N { S with ls := S.ls.set (slotOf S) L } := by
  obtain ⟨w9, -, -⟩ := h.i0.wrong9 h.dl
  have hln := h.ww.len w9.1
  rw [h.i0.cn] at hln
  have hi := h.i0
  refine ⟨⟨hi.ti, hi.on, hi.og9, hi.lo, hi.cn, hi.cp, by rw [List.length_set]; exact hi.ln, fun s => ?_, hi.n1, hi.nb, hi.dl, hi.dw, hi.one, hi.pr, hi.un, hi.fo, hi.de⟩, fun x hx => ?_⟩
  · show ((S.ls.set (slotOf S) L).getD s []).length ≤ 80
    by_cases e : slotOf S = s
    · subst e; rw [getD_set_self _ _ _ _ h.sl]; have := hi.on; omega
    · rw [getD_set_ne _ _ _ _ _ e]; exact hi.lb s
  · show WI S.cl x ((S.ls.set (slotOf S) L).getD (slotN x) [])
    by_cases e : x = wrongOf S
    · subst e; rw [show slotN (wrongOf S) = slotOf S from rfl, getD_set_self _ _ _ _ h.sl]; exact h.ww
    · have hne : slotOf S ≠ slotN x := fun hs => e (slotN_inj hx.l3 w9.l3 hs.symm)
      rw [getD_set_ne _ _ _ _ _ hne]; exact h.wi x hx e
theorem RInv.finish {og lc : List (List Int)} {D : Int → Prop} {N : Nat} {S : WS} {keep : List Int} (h : RInv og lc D N S keep []) : Inv og lc D N (pushDn { S with ls := S.ls.set (slotOf S) keep }) := by
  obtain ⟨h, hkp⟩ := h
  rw [List.append_nil] at h
  have hc := h.close
  refine ⟨hc.1.push h.dl fun k => ?_, hc.2⟩
  show ((S.cl.getD k []).getD 0 0 = wrongOf S → _) ∧ ((S.cl.getD k []).getD 1 0 = wrongOf S → _)
  have hm : Wat S.cl (wrongOf S) k → (k : Int) ∈ keep := fun hw => (h.ww.2 k).2 ⟨k, rfl, hw⟩
  exact ⟨fun e => (hkp k (hm (.inl e))).1 e, fun e => (hkp k (hm (.inr e))).2 e⟩
end Go.Proofs.Ytkaklgjdmlddmaa
