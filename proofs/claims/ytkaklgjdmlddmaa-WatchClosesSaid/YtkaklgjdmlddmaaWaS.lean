/-
  Package watch, PLAIN: Run's law: what holds between two literals, between two clauses, and at the end.
-/
import Derived.Test.YtkaklgjdmlddmaaWaR
namespace Go.Proofs.Ytkaklgjdmlddmaa
open Go.ChangeShapes Go.WideShapes Go.ChangeAt Go.RowKit
set_option linter.unusedVariables false
set_option linter.unusedSimpArgs false
theorem VF.kept {S : WS} {k : Nat} {c c' : List Int} (v : VF S k c c') : 2 ≤ c'.length := by rw [v.pm.length_eq]; exact v.len
/-- The clause's first two may have changed places. -/
theorem RJ.swapped {og lc : List (List Int)} {D : Int → Prop} {N : Nat} {S : WS} {L : List Int} (h : RJ og lc D N S L) {k : Nat} (hk : (k : Int) ∈ L) :
    RJ og lc D N { S with cl := S.cl.set k (visC (S.cl.getD k []) (wrongOf S)) } L := by
  have v := h.vf hk
  have he : ∀ x k', Wat (S.cl.set k (visC (S.cl.getD k []) (wrongOf S))) x k' ↔ Wat S.cl x k' := fun x k' => by
    rw [wat_set v.kl]
    split
    · rename_i e; subst e
      unfold Wat
      rw [v.v1]
      rcases v.pair with ⟨p1, p2⟩ | ⟨p1, p2⟩
      · rw [p1, p2]; exact Or.comm
      · rw [p1, p2]
    · exact Iff.rfl
  refine ⟨h.i0.setCl v.kl v.pm v.kept (fun p hp => ?_) h.i0.ln h.i0.lb, h.bk, h.dl, h.sl, fun x hx hne => (h.wi x hx hne).congr (he x), h.ww.congr (he _)⟩
  have := h.i0.pr k p hp
  rw [v.v1]
  rcases v.pair with ⟨p1, p2⟩ | ⟨p1, p2⟩
  · rw [p1, p2] at this; exact ⟨this.2, this.1⟩
  · rw [p1, p2] at this; exact this
theorem nd_mid {keep rest : List Int} {k : Int} (h : (keep ++ k :: rest).Nodup) : k ∉ keep ∧ k ∉ rest ∧ (keep ++ rest).Nodup := by
  rw [List.nodup_append, List.nodup_cons] at h
  obtain ⟨h1, ⟨h2, h3⟩, h4⟩ := h
  refine ⟨fun hm => h4 k hm k List.mem_cons_self rfl, h2, ?_⟩
  rw [List.nodup_append]
  exact ⟨h1, h3, fun a ha b hb => h4 a ha b (List.mem_cons_of_mem _ hb)⟩
/-- What keeps watching, one more. -/
theorem RInv.more {og lc : List (List Int)} {D : Int → Prop} {N : Nat} {S S2 : WS} {keep rest : List Int} {k : Nat} (h : RInv og lc D N S keep ((k : Int) :: rest)) (hj : RJ og lc D N S2 (keep ++ (k : Int) :: rest)) (hw : wrongOf S2 = wrongOf S)
    (hc : ∀ k', k' ≠ k → S2.cl.getD k' [] = S.cl.getD k' []) (hl : ∀ y, y ∈ S.t.l → y ∈ S2.t.l) (h0 : (S2.cl.getD k []).getD 0 0 ≠ wrongOf S) (h1 : (S2.cl.getD k []).getD 0 0 ∈ S2.t.l) : RInv og lc D N S2 (keep ++ [(k : Int)]) rest := by
  obtain ⟨hnk, -, -⟩ := nd_mid h.j.ww.1
  refine ⟨by rw [List.append_assoc]; exact hj, fun k' hk' => ?_⟩
  rw [hw]
  rcases List.mem_append.1 hk' with hk' | hk'
  · have hne : k' ≠ k := fun e => by rw [e] at hk'; exact hnk hk'
    rw [hc k' hne]
    exact ⟨fun e => hl _ ((h.kp k' hk').1 e), fun e => hl _ ((h.kp k' hk').2 e)⟩
  · have : (k' : Int) = k := List.mem_singleton.1 hk'
    obtain rfl : k' = k := by omega
    exact ⟨fun e => absurd e h0, fun _ => h1⟩
/-- A clause that is visited watches another literal. -/
theorem RInv.move {og lc : List (List Int)} {D : Int → Prop} {N : Nat} {S : WS} {keep rest : List Int} {k j : Nat} (h : RInv og lc D N S keep ((k : Int) :: rest)) (h2 : 2 ≤ j) (hjl : j < (visC (S.cl.getD k []) (wrongOf S)).length) (hv : 0 ≤ S.t.value ((visC (S.cl.getD k []) (wrongOf S)).getD j 0)) :
    RInv og lc D N { S with cl := S.cl.set k (sw (visC (S.cl.getD k []) (wrongOf S)) 1 j), ls := putL S.ls (slotN ((visC (S.cl.getD k []) (wrongOf S)).getD j 0)) k } keep rest := by
  have hkL : (k : Int) ∈ keep ++ (k : Int) :: rest := by simp
  have v := h.j.vf hkL
  obtain ⟨w9, wl, wa⟩ := h.j.i0.wrong9 h.j.dl
  obtain ⟨hnk, hnr, hnd⟩ := nd_mid h.j.ww.1
  obtain ⟨c, hc⟩ : ∃ c, c = S.cl.getD k [] := ⟨_, rfl⟩
  obtain ⟨c', hc'⟩ : ∃ c', c' = visC (S.cl.getD k []) (wrongOf S) := ⟨_, rfl⟩
  rw [← hc'] at hjl hv v ⊢
  rw [← hc] at v
  obtain ⟨y, hy⟩ : ∃ y, y = c'.getD j 0 := ⟨_, rfl⟩
  rw [← hy] at hv ⊢
  have hlen : c'.length = c.length := v.pm.length_eq
  have hjc : j < c.length := by omega
  have hnd' : c'.Nodup := v.pm.nodup_iff.2 v.c9.nd
  have hyc : y ∈ c' := by rw [hy]; exact mem_getD hjl
  have hy9 : lit9 y := v.c9.li y (v.pm.mem_iff.1 hyc)
  have hyw : y ≠ wrongOf S := by rw [hy]; exact v.ne j hjc (by omega)
  have hy0 : y ≠ c'.getD 0 0 := fun e => by
    rw [hy] at e
    have := nodup_at hnd' hjl (by omega) e
    omega
  have h0w : c'.getD 0 0 ≠ wrongOf S := v.ne 0 (by have := v.len; omega) (by omega)
  have s0 : (sw c' 1 j).getD 0 0 = c'.getD 0 0 := sw_o (by omega) (by omega)
  have s1 : (sw c' 1 j).getD 1 0 = y := by rw [sw_i (by omega) hjl (by omega), ← hy]
  have hnw : ¬ Wat S.cl y k := fun e => by
    unfold Wat at e
    rw [← hc] at e
    rcases v.pair with ⟨p1, p2⟩ | ⟨p1, p2⟩
    · rw [p1, p2] at e; rcases e with e | e
      · exact hyw e.symm
      · exact hy0 e.symm
    · rw [p1, p2] at e; rcases e with e | e
      · exact hy0 e.symm
      · exact hyw e.symm
  have hpm : (sw c' 1 j).Perm (S.cl.getD k []) := by rw [← hc]; exact (sw_perm (by omega) hjl).trans v.pm
  have wy := h.j.wi y hy9 hyw
  have wat : ∀ x k', Wat (S.cl.set k (sw c' 1 j)) x k' ↔ if k' = k then c'.getD 0 0 = x ∨ y = x else Wat S.cl x k' := fun x k' => by
    rw [wat_set v.kl, s0, s1]
  have watk : ∀ x, Wat S.cl x k ↔ c'.getD 0 0 = x ∨ wrongOf S = x := fun x => by
    unfold Wat
    rw [← hc]
    rcases v.pair with ⟨p1, p2⟩ | ⟨p1, p2⟩
    · rw [p1, p2]; exact Or.comm
    · rw [p1, p2]
  have wy2 : WI (S.cl.set k (sw c' 1 j)) y (S.ls.getD (slotN y) [] ++ [(k : Int)]) := by
    refine ⟨?_, fun id => ?_⟩
    · rw [List.nodup_append]
      refine ⟨wy.1, by simp, fun a ha b hb => ?_⟩
      rw [List.mem_singleton.1 hb]
      rintro rfl
      obtain ⟨k', e, hk'⟩ := (wy.2 _).1 ha
      obtain rfl : k = k' := by omega
      exact hnw hk'
    · rw [List.mem_append, wy.2, List.mem_singleton]
      constructor
      · rintro (⟨k', rfl, hk'⟩ | rfl)
        · refine ⟨k', rfl, (wat y k').2 ?_⟩
          split
          · exact .inr rfl
          · exact hk'
        · exact ⟨k, rfl, (wat y k).2 (by rw [if_pos rfl]; exact .inr rfl)⟩
      · rintro ⟨k', rfl, hk'⟩
        rw [wat] at hk'
        by_cases e : k' = k
        · exact .inr (by rw [e])
        · rw [if_neg e] at hk'; exact .inl ⟨k', rfl, hk'⟩
  have hyl : (S.ls.getD (slotN y) [] ++ [(k : Int)]).length ≤ 80 := by
    have := wy2.len hy9.1
    rw [List.length_set, h.j.i0.cn] at this
    have := h.j.i0.on
    omega
  have hslot : slotOf S ≠ slotN y := fun e => hyw (slotN_inj hy9.l3 w9.l3 e.symm)
  refine ⟨⟨h.j.i0.setCl v.kl hpm (by rw [sw_len]; have := v.kept; omega) (fun p hp => ?_) ?_ (fun s => ?_), h.j.bk, h.j.dl, ?_, fun x hx hne => ?_, ?_⟩, fun k' hk' => ?_⟩
  · rw [s0, s1]
    have hpl : -S.t.l.getD p 0 ∉ S.t.l := fun hm => h.j.i0.ti.cons (mem_getD (Nat.lt_of_lt_of_le hp h.j.i0.dl)) hm
    have hwl : wrongOf S ∉ S.t.l := fun hm => h.j.i0.ti.cons hm wl
    constructor
    · intro e
      have := h.j.i0.pr k p hp
      rw [← hc] at this
      exfalso
      rcases v.pair with ⟨p1, p2⟩ | ⟨p1, p2⟩
      · rw [p1, p2] at this; exact hwl (this.2 e).mem
      · rw [p1, p2] at this; exact hwl (this.1 e).mem
    · intro e
      exfalso
      have : -y ∈ S.t.l := by rw [e, Int.neg_neg]; exact mem_getD (Nat.lt_of_lt_of_le hp h.j.i0.dl)
      have := (h.j.i0.ti.lt0 hy9).2 this
      omega
  · rw [putL_len]; have := h.j.i0.ln; have := slotN9 hy9; omega
  · rw [putL_at]
    split
    · exact hyl
    · exact h.j.i0.lb s
  · show slotOf S < (putL S.ls (slotN y) k).length
    rw [putL_len]; have := h.j.sl; omega
  · show WI (S.cl.set k (sw c' 1 j)) x ((putL S.ls (slotN y) k).getD (slotN x) [])
    have hne : x ≠ wrongOf S := hne
    rw [putL_at]
    by_cases e : x = y
    · subst e; rw [if_pos rfl]; exact wy2
    · rw [if_neg (fun hs => e (slotN_inj hx.l3 hy9.l3 hs))]
      refine (h.j.wi x hx hne).congr fun k' => ?_
      rw [wat]
      split
      · rename_i e2; subst e2
        rw [watk]
        exact ⟨fun q => q.elim .inl (fun q => absurd q.symm e), fun q => q.elim .inl (fun q => absurd q.symm hne)⟩
      · exact Iff.rfl
  · show WI (S.cl.set k (sw c' 1 j)) (wrongOf S) (keep ++ rest)
    refine ⟨hnd, fun id => ?_⟩
    constructor
    · intro hid
      have hid2 : id ∈ keep ++ (k : Int) :: rest := by
        rcases List.mem_append.1 hid with q | q
        · exact List.mem_append_left _ q
        · exact List.mem_append_right _ (List.mem_cons_of_mem _ q)
      obtain ⟨k', rfl, hk'⟩ := (h.j.ww.2 _).1 hid2
      refine ⟨k', rfl, (wat _ k').2 ?_⟩
      rw [if_neg (fun e => ?_)]
      · exact hk'
      · subst e
        rcases List.mem_append.1 hid with q | q
        · exact hnk q
        · exact hnr q
    · rintro ⟨k', rfl, hk'⟩
      rw [wat] at hk'
      by_cases e : k' = k
      · rw [if_pos e] at hk'
        rcases hk' with q | q
        · exact absurd q h0w
        · exact absurd q hyw
      · rw [if_neg e] at hk'
        have := (h.j.ww.2 (k' : Int)).2 ⟨k', rfl, hk'⟩
        rcases List.mem_append.1 this with q | q
        · exact List.mem_append_left _ q
        · rcases List.mem_cons.1 q with q | q
          · exact absurd (by omega) e
          · exact List.mem_append_right _ q
  · have hne : k' ≠ k := fun e => by rw [e] at hk'; exact hnk hk'
    show (((S.cl.set k (sw c' 1 j)).getD k' []).getD 0 0 = wrongOf S → ((S.cl.set k (sw c' 1 j)).getD k' []).getD 1 0 ∈ S.t.l) ∧ (((S.cl.set k (sw c' 1 j)).getD k' []).getD 1 0 = wrongOf S → ((S.cl.set k (sw c' 1 j)).getD k' []).getD 0 0 ∈ S.t.l)
    rw [set_at _ _ _ v.kl, if_neg hne]
    exact h.kp k' hk'
/-- What a Run's end tells. -/
structure EInv (og lc : List (List Int)) (D : Int → Prop) (N : Nat) (id : Int) (fine : Bool) (S : WS) : Prop where
  inv : Inv og lc D N S
  bk : S.bk < 0
  yes : fine = true → id = -1 ∧ S.dn.length = S.t.l.length
  no : fine = false → ∃ k : Nat, id = (k : Int) ∧ k < og.length ∧ lc.getD k [] ≠ [] ∧ ∀ y ∈ lc.getD k [], -y ∈ S.t.l
theorem RInv.visit {og lc : List (List Int)} {D : Int → Prop} {N : Nat} {S : WS} {keep rest : List Int} {k : Nat} (h : RInv og lc D N S keep ((k : Int) :: rest)) :
    ((visitF S k (wrongOf S)).2.2 = true → RInv og lc D N (visitF S k (wrongOf S)).1 (if (visitF S k (wrongOf S)).2.1 then keep ++ [(k : Int)] else keep) rest) ∧
    ((visitF S k (wrongOf S)).2.2 = false → (visitF S k (wrongOf S)).2.1 = true ∧ RJ og lc D N (visitF S k (wrongOf S)).1 (keep ++ (k : Int) :: rest) ∧ k < og.length ∧ lc.getD k [] ≠ [] ∧ ∀ y ∈ lc.getD k [], -y ∈ (visitF S k (wrongOf S)).1.t.l) := by
  have hkL : (k : Int) ∈ keep ++ (k : Int) :: rest := by simp
  have v := h.j.vf hkL
  have hs := h.j.swapped hkL
  obtain ⟨w9, wl, wa⟩ := h.j.i0.wrong9 h.j.dl
  obtain ⟨c', hc'⟩ : ∃ c', c' = visC (S.cl.getD k []) (wrongOf S) := ⟨_, rfl⟩
  have hmv := fun j h2 hjl hv => h.move (j := j) h2 hjl hv
  unfold visitF
  rw [← hc'] at v hs hmv ⊢
  have hlen : c'.length = (S.cl.getD k []).length := v.pm.length_eq
  have hl2 := v.len
  have h0c : c'.getD 0 0 ∈ c' := mem_getD (by omega)
  have h09 : lit9 (c'.getD 0 0) := v.c9.li _ (v.pm.mem_iff.1 h0c)
  have h0w : c'.getD 0 0 ≠ wrongOf S := v.ne 0 (by omega) (by omega)
  have hck : (S.cl.set k c').getD k [] = c' := by rw [set_at _ _ _ v.kl, if_pos rfl]
  have hce : ∀ k', k' ≠ k → (S.cl.set k c').getD k' [] = S.cl.getD k' [] := fun k' e => by rw [set_at _ _ _ v.kl, if_neg e]
  rw [if_neg (by omega)]
  by_cases hv : 0 < S.t.value (c'.getD 0 0)
  · rw [if_pos hv]
    refine ⟨fun _ => ?_, (fun e => by cases e)⟩
    refine h.more hs rfl hce (fun y hy => hy) ?_ ?_
    · show ((S.cl.set k c').getD k []).getD 0 0 ≠ _; rw [hck]; exact h0w
    · show ((S.cl.set k c').getD k []).getD 0 0 ∈ S.t.l; rw [hck]; exact (h.j.i0.ti.gt0 h09).1 hv
  · rw [if_neg hv]
    cases hf : fk S.t c' with
    | some j =>
      obtain ⟨j1, j2, j3⟩ := fk_spec hf
      simp only
      refine ⟨fun _ => ?_, (fun e => by cases e)⟩
      exact hmv j j1 j2 j3
    | none =>
      simp only
      have hall : ∀ j, 1 ≤ j → j < c'.length → -(c'.getD j 0) ∈ S.t.l := fun j h1 hj => by
        rcases (show j = 1 ∨ 2 ≤ j by omega) with rfl | h2
        · rw [v.v1]; exact wl
        · have hm : c'.getD j 0 ∈ c' := mem_getD hj
          exact (h.j.i0.ti.lt0 (v.c9.li _ (v.pm.mem_iff.1 hm))).1 (fk_no hf j h2 hj)
      have hne : S.cl.getD k [] ≠ [] := v.c9.ne
      obtain ⟨hkl, hlo, hpo, -⟩ := h.j.i0.cl9 hne
      by_cases hv2 : S.t.value (c'.getD 0 0) < 0
      · rw [if_pos hv2]
        refine ⟨(fun e => by cases e), fun _ => ⟨rfl, hs, hkl, ?_, fun y hy => ?_⟩⟩
        · rw [hlo]; exact (h.j.i0.og9 k hkl).ne
        · rw [hlo] at hy
          obtain ⟨j, hj, rfl⟩ := List.getElem_of_mem (v.pm.mem_iff.2 (hpo.mem_iff.2 hy))
          show -c'[j] ∈ S.t.l
          rw [← getD_mem' hj]
          rcases Nat.eq_zero_or_pos j with e | e
          · rw [e]; exact (h.j.i0.ti.lt0 h09).1 hv2
          · exact hall j e hj
      · rw [if_neg hv2]
        have hv0 : S.t.value (c'.getD 0 0) = 0 := by omega
        refine ⟨fun _ => ?_, (fun e => by cases e)⟩
        have hfr := (free9 h.j.i0.ti.ms h09).2 hv0
        unfold impT
        rw [if_pos hfr]
        have h0og : c'.getD 0 0 ∈ og.getD k [] := hpo.mem_iff.1 (v.pm.mem_iff.1 h0c)
        have hp := hs.i0.put (x := c'.getD 0 0) hkl h0og hv0 (fun y hy hny => by
          obtain ⟨j, hj, rfl⟩ := List.getElem_of_mem (v.pm.mem_iff.2 (hpo.mem_iff.2 hy))
          show -c'[j] ∈ S.t.l
          rw [← getD_mem' hj] at hny ⊢
          refine hall j ?_ hj
          rcases Nat.eq_zero_or_pos j with e | e
          · rw [e] at hny; exact absurd rfl hny
          · exact e)
        have hwr : wrongOf { S with cl := S.cl.set k c', t := S.t.put (c'.getD 0 0) k } = wrongOf S := by
          unfold wrongOf
          show -((S.t.l ++ [c'.getD 0 0]).getD S.dn.length 0) = _
          simp only [List.getD]
          rw [List.getElem?_append_left h.j.dl]
        refine h.more ⟨hp, h.j.bk, by show S.dn.length < (S.t.l ++ [_]).length; rw [List.length_append]; have := h.j.dl; omega, by unfold slotOf; rw [hwr]; exact h.j.sl, fun x hx hx2 => hs.wi x hx (by rw [hwr] at hx2; exact hx2), by rw [hwr]; exact hs.ww⟩ hwr hce (fun y hy => List.mem_append_left _ hy) ?_ ?_
        · show ((S.cl.set k c').getD k []).getD 0 0 ≠ _; rw [hck]; exact h0w
        · show ((S.cl.set k c').getD k []).getD 0 0 ∈ S.t.l ++ [_]; rw [hck]; simp
theorem visitF_bk (S : WS) (k : Nat) (wrong : Int) : (visitF S k wrong).1.bk = S.bk := by
  unfold visitF
  split
  · rfl
  · split
    · rfl
    · split
      · rfl
      · split <;> rfl
/-- The law of Run. -/
theorem run_law (og lc : List (List Int)) (D : Int → Prop) (N : Nat) : RunLaw (fun S => Inv og lc D N S ∧ S.bk < 0) (RInv og lc D N) (EInv og lc D N) where
  qb := fun S h => h.1.1.run
  skip := fun S h hd hs => ⟨h.1.skip hd hs, h.2⟩
  start := fun S h hd hs => h.1.start h.2 hd hs
  rb := fun S keep rest h => h.rb
  vis := fun S keep id rest h => by
    obtain ⟨w9, wl, wa⟩ := h.j.i0.wrong9 h.j.dl
    obtain ⟨k, rfl, hw⟩ := (h.j.ww.2 id).1 (by simp)
    have v := h.j.vf (k := k) (by simp)
    have hr := h.j.i0.run
    refine ⟨k, rfl, hr.sg, hr.tb, v.kl, by rw [h.j.i0.cn]; have := h.j.i0.on; omega, v.c9.ne, by have := v.c9.len; omega, fun x hx => (v.c9.li x hx).l3, hr.lb.mono (by omega), fun j hj => ?_⟩
    by_cases e : (visC (S.cl.getD k []) (wrongOf S)).getD j 0 = wrongOf S
    · right; rw [e]; exact (h.j.i0.ti.lt0 w9).2 wl
    · exact .inl e
  step := fun S keep k rest h hf => h.visit.1 hf
  confl := fun S keep k rest h hf => by
    obtain ⟨h1, h2, h3, h4, h5⟩ := h.visit.2 hf
    have hs : slotOf (visitF S k (wrongOf S)).1 = slotOf S := by unfold slotOf; rw [visitF_wrong S k _ h.j.dl]
    have hc := h2.close
    rw [hs] at hc
    rw [h1, if_pos rfl, List.append_assoc]
    refine ⟨hc, by show (visitF S k (wrongOf S)).1.bk < 0; rw [visitF_bk]; exact h.j.bk, (fun e => by cases e), fun _ => ⟨k, rfl, h3, h4, h5⟩⟩
  finish := fun S keep h => ⟨h.finish, h.j.bk⟩
  done := fun S h hd => ⟨h.1, h.2, fun _ => ⟨rfl, by have := h.1.1.dl; omega⟩, (fun e => by cases e)⟩
end Go.Proofs.Ytkaklgjdmlddmaa
