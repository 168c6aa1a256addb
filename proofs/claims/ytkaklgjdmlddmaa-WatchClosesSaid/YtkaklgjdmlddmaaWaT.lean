/-
  Package watch, PLAIN: what deciding, going back and removing keep.
-/
import Derived.Test.YtkaklgjdmlddmaaWaS
namespace Go.Proofs.Ytkaklgjdmlddmaa
open Go.ChangeShapes Go.WideShapes Go.ChangeAt Go.RowKit
set_option linter.unusedVariables false
set_option linter.unusedSimpArgs false
theorem backF_same {S : WS} (h : S.dn.length ≤ S.t.l.length) : backF S = S := by
  unfold backF backN
  rw [Nat.min_eq_left h, List.take_length]
theorem Inv0.backOk {og lc : List (List Int)} {D : Int → Prop} {N : Nat} {S : WS} (h : Inv0 og lc D N S) : BackOk S :=
  ⟨h.ti.ok.wh, fun j hj _ => h.dw j hj, fun j hj => by
    have h1 : j < S.t.wh.length := by rw [h.ti.ok.wh]; exact Nat.lt_of_lt_of_le hj h.dl
    have := h.ti.whp _ (mem_getD h1)
    rw [h.dw j hj]; omega, by have := h.dl; have := h.ti.len; omega⟩
/-- A watch between two acts: it may have been gone through further than its trail reaches. -/
structure Pre (og lc : List (List Int)) (D : Int → Prop) (N : Nat) (S : WS) : Prop where
  ok : BackOk S
  inv : Inv og lc D N (backF S)
theorem Inv.pre {og lc : List (List Int)} {D : Int → Prop} {N : Nat} {S : WS} (h : Inv og lc D N S) : Pre og lc D N S := ⟨h.1.backOk, by rw [backF_same h.1.dl]; exact h⟩
theorem Inv.mono {og lc : List (List Int)} {D D' : Int → Prop} {N N' : Nat} {S : WS} (h : Inv og lc D N S) (hD : ∀ x, D x → D' x) (hN : N ≤ N') (hb : N' ≤ 100000000) : Inv og lc D' N' S := by
  obtain ⟨h, h2⟩ := h
  exact ⟨⟨h.ti, h.on, h.og9, h.lo, h.cn, h.cp, h.ln, h.lb, by have := h.n1; omega, hb, h.dl, h.dw, h.one, h.pr, h.un, h.fo, fun x hx hr => hD _ (h.de x hx hr)⟩, h2⟩
theorem Inv.decide {og lc : List (List Int)} {D D' : Int → Prop} {N : Nat} {S : WS} (h : Inv og lc D N S) (he : S.dn.length = S.t.l.length) {x : Int} (hx : lit9 x) (hf : S.t.value x = 0) (hD : ∀ y, D y → D' y) (hDx : D' x) :
    Inv og lc D' N { S with t := S.t.up.put x (-1) } := by
  obtain ⟨h, h2⟩ := h
  have hl : (S.t.up.put x (-1)).l = S.t.l ++ [x] := rfl
  have hlv : (S.t.up.put x (-1)).lv = S.t.lv ++ [(S.t.l.length : Int)] := rfl
  have hnx : x ∉ S.t.l := fun hm => by have := (h.ti.val x hx).2 hm; omega
  have hnn : -x ∉ S.t.l := fun hm => by have := (h.ti.m1 hx).2 hm; omega
  have old : ∀ q, q < S.t.l.length → (S.t.l ++ [x]).getD q 0 = S.t.l.getD q 0 := fun q hq => by simp [List.getD, List.getElem?_append_left hq]
  have hre : ∀ y ∈ S.t.l, (S.t.up.put x (-1)).reason (absI y) = S.t.reason (absI y) := fun y hy => by
    have hy9 := h.ti.li y hy
    rw [put_reason (t := S.t.up) h.ti.ms (-1) hx hy9, if_neg (fun e => by
      rcases absI_eq e with e | e
      · rw [e] at hy; exact hnx hy
      · rw [e] at hy; exact hnn hy)]
    rfl
  have hrx : (S.t.up.put x (-1)).reason (absI x) = -1 := by rw [put_reason (t := S.t.up) h.ti.ms (-1) hx hx, if_pos rfl]
  refine ⟨⟨h.ti.up (-1) hx hf, h.on, h.og9, h.lo, h.cn, h.cp, h.ln, h.lb, ?_, h.nb, by have := h.dl; show S.dn.length ≤ (S.t.l ++ [x]).length; rw [List.length_append]; omega, fun j hj => ?_, fun hb k' hl' => ?_, fun k' p hp => ?_, fun e he2 i hi1 hi2 => ?_, fun i hi hr => ?_, fun y hy hr => ?_⟩, h2⟩
  · have := h.n1
    show S.t.now + 1 ≤ (N : Int) + ((S.t.l ++ [x]).length : Int)
    rw [List.length_append]; simp; omega
  · show S.dn.getD j 0 = (S.t.wh ++ [S.t.now + 1]).getD j 0
    have hj : j < S.dn.length := hj
    have h1 : j < S.t.wh.length := by rw [h.ti.ok.wh]; exact Nat.lt_of_lt_of_le hj h.dl
    rw [h.dw j hj]; simp [List.getD, List.getElem?_append_left h1]
  · obtain ⟨q, h1, h2, h3⟩ := h.one hb k' hl'
    refine ⟨q, by rw [hl, List.length_append]; omega, by rw [hl, old q h1]; exact h2, fun e he => ?_⟩
    rw [hlv] at he
    rcases List.mem_append.1 he with he | he
    · exact h3 e he
    · rw [List.mem_singleton.1 he]; omega
  · have hp : p < S.dn.length := hp
    have h1 := Nat.lt_of_lt_of_le hp h.dl
    have htru : ∀ y, Tru S.t y p → Tru (S.t.up.put x (-1)) y p := fun y ⟨q, h1, h2, h3⟩ => ⟨q, by rw [hl, List.length_append]; omega, by rw [hl, old q h1]; exact h2, fun e he hq => by
      rw [hlv] at he
      rcases List.mem_append.1 he with he | he
      · exact h3 e he hq
      · rw [List.mem_singleton.1 he] at hq; omega⟩
    show ((S.cl.getD k' []).getD 0 0 = -((S.t.l ++ [x]).getD p 0) → _) ∧ ((S.cl.getD k' []).getD 1 0 = -((S.t.l ++ [x]).getD p 0) → _)
    rw [old p h1]
    exact ⟨fun e => htru _ ((h.pr k' p hp).1 e), fun e => htru _ ((h.pr k' p hp).2 e)⟩
  · have hi1 : S.dn.length ≤ i := hi1
    have he2 : e ∈ S.t.lv ++ [(S.t.l.length : Int)] := he2
    rcases List.mem_append.1 he2 with he2 | he2
    · have := h.ti.lvb e he2; omega
    · rw [List.mem_singleton.1 he2]; omega
  · have hi : i < (S.t.l ++ [x]).length := hi
    rw [List.length_append] at hi
    have hr : 0 ≤ (S.t.up.put x (-1)).reason (absI ((S.t.l ++ [x]).getD i 0)) := hr
    rcases Nat.lt_or_ge i S.t.l.length with h1 | h1
    · have hm := mem_getD h1
      have e0 : (S.t.up.put x (-1)).l.getD i 0 = S.t.l.getD i 0 := old i h1
      rw [old i h1, hre _ hm] at hr
      obtain ⟨k', g1, g2, g3, g4⟩ := h.fo i h1 hr
      unfold Told
      show ∃ k', (S.t.up.put x (-1)).reason (absI ((S.t.up.put x (-1)).l.getD i 0)) = _ ∧ _ ∧ (S.t.up.put x (-1)).l.getD i 0 ∈ _ ∧ ∀ y ∈ _, y ≠ (S.t.up.put x (-1)).l.getD i 0 → -y ∈ (S.t.up.put x (-1)).l.take i
      rw [e0, hre _ hm]
      refine ⟨k', g1, g2, g3, fun y hy hne => ?_⟩
      rw [hl, List.take_append_of_le_length (by omega)]
      exact g4 y hy hne
    · obtain rfl : i = S.t.l.length := by simp at hi; omega
      have e0 : (S.t.l ++ [x]).getD S.t.l.length 0 = x := by simp [List.getD]
      rw [e0, hrx] at hr
      omega
  · have hy : y ∈ S.t.l ++ [x] := hy
    have hr : (S.t.up.put x (-1)).reason (absI y) < 0 := hr
    rcases List.mem_append.1 hy with hy | hy
    · rw [hre y hy] at hr
      exact hD _ (h.de y hy hr)
    · rw [List.mem_singleton.1 hy]; exact hDx
theorem take_at {l : List Int} {n i : Nat} (h : i < n) : (l.take n).getD i 0 = l.getD i 0 := by simp [List.getD, List.getElem?_take_of_lt h]
theorem Inv.back {og lc : List (List Int)} {D : Int → Prop} {N : Nat} {S : WS} (h : Inv og lc D N S) (level : Nat) (hN : N + 9 ≤ 100000000) : Pre og lc D (N + 9) { S with t := S.t.back level } := by
  rcases Nat.lt_or_ge level S.t.lv.length with hl | hl
  case inr => rw [back_same hl]; exact (h.mono (fun _ h => h) (by omega) hN).pre
  obtain ⟨h, h2⟩ := h
  obtain ⟨e1, e2, e3, e4, e5⟩ := back_l hl
  obtain ⟨P, hP⟩ : ∃ P : Nat, (P : Int) = S.t.lv.getD level 0 ∧ (P : Int) ∈ S.t.lv := by
    have hm : S.t.lv.getD level 0 ∈ S.t.lv := mem_getD hl
    have := h.ti.ok.lev _ hm
    exact ⟨(S.t.lv.getD level 0).toNat, by omega, by rw [Int.toNat_of_nonneg this.1]; exact hm⟩
  rw [← hP.1, Int.toNat_natCast] at e1 e3
  obtain ⟨-, hPm⟩ := hP
  have hPl : P < S.t.l.length := by have := h.ti.lvb _ hPm; omega
  have hti := h.ti.back level
  have hlen : (S.t.back level).l.length = P := by rw [e1, List.length_take]; omega
  have hdn : ∀ i, S.dn.length ≤ i → i < P → False := fun i h1 h2 => by have := h.un _ hPm i h1 (by omega); omega
  refine ⟨⟨hti.ok.wh, fun j hj hj2 => ?_, h.backOk.pos, h.backOk.sm⟩, ?_⟩
  · have hj2 : j < (S.t.back level).l.length := hj2
    rw [hlen] at hj2
    show _ = (S.t.back level).wh.getD j 0
    rw [e3, take_at hj2]; exact h.dw j hj
  unfold backF backN
  show Inv og lc D (N + 9) { t := S.t.back level, cl := S.cl, ls := S.ls, dn := S.dn.take (min S.dn.length (S.t.back level).l.length), bk := S.bk }
  rw [hlen]
  have hdl : (S.dn.take (min S.dn.length P)).length = min S.dn.length P := by rw [List.length_take]; omega
  refine ⟨⟨hti, h.on, h.og9, h.lo, h.cn, h.cp, h.ln, h.lb, ?_, hN, ?_, fun j hj => ?_, fun hb k' hl' => ?_, fun k' p hp => ?_, fun e he i hi1 hi2 => ?_, fun i hi hr => ?_, fun y hy hr => ?_⟩, h2⟩
  · have := h.n1
    have := h.ti.len
    show (S.t.back level).now ≤ ((N + 9 : Nat) : Int) + _
    rw [e4]; omega
  · show (S.dn.take _).length ≤ (S.t.back level).l.length
    rw [hdl, hlen]; omega
  · have hj : j < (S.dn.take (min S.dn.length P)).length := hj
    rw [hdl] at hj
    show (S.dn.take (min S.dn.length P)).getD j 0 = (S.t.back level).wh.getD j 0
    rw [e3, take_at hj, take_at (by omega)]; exact h.dw j (by omega)
  · obtain ⟨q, h1, h2, h3⟩ := h.one hb k' hl'
    have hq := h3 _ hPm
    refine ⟨q, by rw [hlen]; omega, by rw [e1, take_at (by omega)]; exact h2, fun e he => ?_⟩
    rw [e2] at he; exact h3 e (List.mem_of_mem_take he)
  · have hp : p < (S.dn.take (min S.dn.length P)).length := hp
    rw [hdl] at hp
    have htru : ∀ y, Tru S.t y p → Tru (S.t.back level) y p := fun y ⟨q, h1, h2, h3⟩ => by
      have hq : q < P := by
        rcases Nat.lt_or_ge q P with h | h
        · exact h
        · have := h3 _ hPm (by omega); omega
      exact ⟨q, by rw [hlen]; exact hq, by rw [e1, take_at hq]; exact h2, fun e he => by rw [e2] at he; exact h3 e (List.mem_of_mem_take he)⟩
    show ((S.cl.getD k' []).getD 0 0 = -((S.t.back level).l.getD p 0) → _) ∧ ((S.cl.getD k' []).getD 1 0 = -((S.t.back level).l.getD p 0) → _)
    rw [e1, take_at (by omega)]
    exact ⟨fun e => htru _ ((h.pr k' p (by omega)).1 e), fun e => htru _ ((h.pr k' p (by omega)).2 e)⟩
  · have hi1 : (S.dn.take (min S.dn.length P)).length ≤ i := hi1
    have hi2 : i < (S.t.back level).l.length := hi2
    rw [hdl] at hi1; rw [hlen] at hi2
    exact (hdn i (by omega) hi2).elim
  · have hi : i < (S.t.back level).l.length := hi
    have hi' := hi
    rw [hlen] at hi
    have hm := mem_getD hi'
    have hr : 0 ≤ (S.t.back level).reason (absI ((S.t.back level).l.getD i 0)) := hr
    have e0 : (S.t.back level).l.getD i 0 = S.t.l.getD i 0 := by rw [e1, take_at hi]
    rw [back_reason h.ti hl hm, e0] at hr
    obtain ⟨k', g1, g2, g3, g4⟩ := h.fo i (by omega) hr
    unfold Told
    show ∃ k', (S.t.back level).reason (absI ((S.t.back level).l.getD i 0)) = _ ∧ _ ∧ (S.t.back level).l.getD i 0 ∈ _ ∧ ∀ y ∈ _, y ≠ (S.t.back level).l.getD i 0 → -y ∈ (S.t.back level).l.take i
    rw [back_reason h.ti hl hm, e0]
    refine ⟨k', g1, g2, g3, fun y hy hne => ?_⟩
    rw [e1, List.take_take, Nat.min_eq_left (by omega)]
    exact g4 y hy hne
  · have hy : y ∈ (S.t.back level).l := hy
    have hr : (S.t.back level).reason (absI y) < 0 := hr
    rw [back_reason h.ti hl hy] at hr
    rw [e1] at hy
    exact h.de y (List.mem_of_mem_take hy) hr
theorem delF_at (id : Int) (x : Int) (hx : lit3 x) : ∀ (d : List Int), (∀ y ∈ d, lit3 y) → ∀ ls : List (List Int), (d.foldl (fun ls l => ls.set (slotN l) (without (ls.getD (slotN l) []) id)) ls).getD (slotN x) [] = if x ∈ d then without (ls.getD (slotN x) []) id else ls.getD (slotN x) []
  | [], _, ls => by simp
  | y :: d, hd, ls => by
    rw [List.foldl_cons, delF_at id x hx d (fun y hy => hd y (List.mem_cons_of_mem _ hy))]
    have hy3 := hd y List.mem_cons_self
    by_cases e : x = y
    · subst e
      have : (ls.set (slotN x) (without (ls.getD (slotN x) []) id)).getD (slotN x) [] = without (ls.getD (slotN x) []) id := by
        rcases Nat.lt_or_ge (slotN x) ls.length with h | h
        · exact getD_set_self _ _ _ _ h
        · rw [getD_nil_of (by rw [List.length_set]; exact h), getD_nil_of h]; rfl
      rw [this, if_pos List.mem_cons_self]
      split
      · unfold without; rw [List.filter_filter]; simp
      · rfl
    · rw [getD_set_ne _ _ _ _ _ (fun hs => e (slotN_inj hx hy3 hs.symm))]
      simp [e]
theorem mem_take2 {c : List Int} {x : Int} (hx : x ≠ 0) : x ∈ c.take 2 ↔ c.getD 0 0 = x ∨ c.getD 1 0 = x := by
  match c with
  | [] => simp; omega
  | [a] => simp; constructor
           · intro h; exact .inl h.symm
           · rintro (h | h)
             · exact h.symm
             · omega
  | a :: b :: r => simp; constructor
                   · rintro (h | h)
                     · exact .inl h.symm
                     · exact .inr h.symm
                   · rintro (h | h)
                     · exact .inl h.symm
                     · exact .inr h.symm
theorem Inv.remOk {og lc : List (List Int)} {D : Int → Prop} {N : Nat} {S : WS} (h : Inv og lc D N S) {k : Nat} (hk : S.cl.getD k [] ≠ []) : RemOk S k := by
  obtain ⟨h, h2⟩ := h
  obtain ⟨ho, hlo, hp, c9⟩ := h.cl9 hk
  have hwk : ∀ x, lit9 x → ((S.cl.getD k []).getD 0 0 = x ∨ (S.cl.getD k []).getD 1 0 = x) → (k : Int) ∈ S.ls.getD (slotN x) [] := fun x hx hw => ((h2 x hx).2 k).2 ⟨k, rfl, hw⟩
  refine ⟨fun x hx => (c9.li x hx).l3, by have := c9.len; omega, fun i hi2 hi => ?_, fun hl e => ?_, h.run.lb.mono (by omega)⟩
  · have hm := mem_getD hi
    have := hwk _ (c9.li _ hm) (by rcases (show i = 0 ∨ i = 1 by omega) with rfl | rfl; exact .inl rfl; exact .inr rfl)
    constructor
    · rcases Nat.lt_or_ge (slotN ((S.cl.getD k []).getD i 0)) S.ls.length with h | h
      · exact h
      · rw [getD_nil_of h] at this; simp at this
    · intro e; rw [e] at this; simp at this
  · have := nodup_at c9.nd (by omega) (by omega) e; omega
theorem Inv.remove {og lc : List (List Int)} {D : Int → Prop} {N : Nat} {S : WS} (h : Inv og lc D N S) {k : Nat} (hk : S.cl.getD k [] ≠ []) (hkl : k < lc.length) (hb : S.bk ≠ (k : Int)) : RemOk S k ∧ Inv og (lc.set k []) D N (removeF S k) := by
  obtain ⟨h, h2⟩ := h
  obtain ⟨ho, hlo, hp, c9⟩ := h.cl9 hk
  have hkc : k < S.cl.length := by rw [h.cn]; exact ho
  have hwk : ∀ x, lit9 x → ((S.cl.getD k []).getD 0 0 = x ∨ (S.cl.getD k []).getD 1 0 = x) → (k : Int) ∈ S.ls.getD (slotN x) [] := fun x hx hw => ((h2 x hx).2 k).2 ⟨k, rfl, hw⟩
  refine ⟨Inv.remOk ⟨h, h2⟩ hk, ?_⟩
  · unfold removeF
    rw [if_neg hb, if_neg hb]
    have hcl : ∀ k', (S.cl.set k []).getD k' [] = if k' = k then [] else S.cl.getD k' [] := fun k' => set_at _ _ _ hkc k'
    have hls : ∀ x, lit9 x → (delL S.ls (S.cl.getD k []) k 2).getD (slotN x) [] = if x ∈ (S.cl.getD k []).take 2 then without (S.ls.getD (slotN x) []) k else S.ls.getD (slotN x) [] := fun x hx => by
      unfold delL
      exact delF_at _ _ hx.l3 _ (fun y hy => (c9.li y (List.mem_of_mem_take hy)).l3) _
    refine ⟨⟨h.ti, h.on, h.og9, fun k' hk' => ?_, by rw [List.length_set]; exact h.cn, fun k' hk' => ?_, by show (delL _ _ _ _).length ≤ 20; rw [delL_len]; exact h.ln, fun s => ?_, h.n1, h.nb, h.dl, h.dw, fun hb k' hl' => ?_, fun k' p hp => ?_, h.un, h.fo, h.de⟩, fun x hx => ?_⟩
    · rw [set_at _ _ _ hkl]
      split
      · exact .inl rfl
      · exact h.lo k' hk'
    · show ((S.cl.set k []).getD k' []).Perm ((lc.set k []).getD k' [])
      rw [hcl, set_at _ _ _ hkl]
      split
      · exact .refl _
      · exact h.cp k' hk'
    · show ((delL S.ls (S.cl.getD k []) k 2).getD s []).length ≤ 80
      unfold delL
      have : ∀ (d : List Int) (ls : List (List Int)), (∀ s, (ls.getD s []).length ≤ 80) → ∀ s, ((d.foldl (fun ls l => ls.set (slotN l) (without (ls.getD (slotN l) []) k)) ls).getD s []).length ≤ 80 := by
        intro d
        induction d with
        | nil => intro ls h; exact h
        | cons y d ih =>
          intro ls h
          rw [List.foldl_cons]
          refine ih _ fun s => ?_
          by_cases e : slotN y = s
          · subst e
            rcases Nat.lt_or_ge (slotN y) ls.length with hl | hl
            · rw [getD_set_self _ _ _ _ hl]; exact Nat.le_trans (List.length_filter_le _ _) (h _)
            · rw [getD_nil_of (by rw [List.length_set]; exact hl)]; simp
          · rw [getD_set_ne _ _ _ _ _ e]; exact h s
      exact this _ _ h.lb s
    · revert hl'
      show ((S.cl.set k []).getD k' []).length = 1 → Base S.t (((S.cl.set k []).getD k' []).getD 0 0)
      rw [hcl]
      split
      · intro e; simp at e
      · exact h.one hb k'
    · have hpl := Nat.lt_of_lt_of_le hp h.dl
      have := (h.ti.li _ (mem_getD hpl)).1
      show (((S.cl.set k []).getD k' []).getD 0 0 = _ → Tru S.t (((S.cl.set k []).getD k' []).getD 1 0) p) ∧ (((S.cl.set k []).getD k' []).getD 1 0 = _ → Tru S.t (((S.cl.set k []).getD k' []).getD 0 0) p)
      rw [hcl]
      split
      · exact ⟨(fun e => by have e : (0 : Int) = -(S.t.l.getD p 0) := e; omega), (fun e => by have e : (0 : Int) = -(S.t.l.getD p 0) := e; omega)⟩
      · exact h.pr k' p hp
    · show WI (S.cl.set k []) x ((delL S.ls (S.cl.getD k []) k 2).getD (slotN x) [])
      rw [hls x hx]
      have hw := h2 x hx
      have hwat : ∀ k', Wat (S.cl.set k []) x k' ↔ k' ≠ k ∧ Wat S.cl x k' := fun k' => by
        rw [wat_set hkc]
        split
        · rename_i e
          exact ⟨fun q => by have := hx.1; simp at q; omega, fun q => absurd e q.1⟩
        · rename_i e; exact ⟨fun q => ⟨e, q⟩, fun q => q.2⟩
      by_cases hm : x ∈ (S.cl.getD k []).take 2
      · rw [if_pos hm]
        refine ⟨hw.1.sublist List.filter_sublist, fun id => ?_⟩
        unfold without
        rw [List.mem_filter, hw.2]
        constructor
        · rintro ⟨⟨k', rfl, hk'⟩, hne⟩
          refine ⟨k', rfl, (hwat k').2 ⟨fun e => ?_, hk'⟩⟩
          simp at hne; omega
        · rintro ⟨k', rfl, hk'⟩
          obtain ⟨q1, q2⟩ := (hwat k').1 hk'
          exact ⟨⟨k', rfl, q2⟩, by simp; omega⟩
      · rw [if_neg hm]
        refine ⟨hw.1, fun id => ?_⟩
        rw [hw.2]
        constructor
        · rintro ⟨k', rfl, hk'⟩
          refine ⟨k', rfl, (hwat k').2 ⟨fun e => ?_, hk'⟩⟩
          subst e
          exact hm ((mem_take2 hx.1).2 hk')
        · rintro ⟨k', rfl, hk'⟩
          exact ⟨k', rfl, ((hwat k').1 hk').2⟩
end Go.Proofs.Ytkaklgjdmlddmaa
