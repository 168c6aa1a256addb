/-
  The reference's Write.
-/
import Derived.Test.YtpohekmfdbleeaaRamM
namespace Go.Proofs.Ytpohekmfdbleeaa
open Go.ChangeShapes Go.WideShapes Go.ChangeAt Go.RowKit Go.Maps
set_option linter.unusedVariables false
/-! ### plain -/
def stepW (x v : Int) (st : CS × Bool) (p : Int × Int) : CS × Bool :=
  let s1 := if !st.2 && decide (x ≤ p.1) then (st.1 ++ [(x, v)], true) else st
  if p.1 = x then s1 else (s1.1 ++ [p], s1.2)
def accW (cs : CS) (x v : Int) (k : Nat) : CS × Bool := (cs.take k).foldl (stepW x v) ([], v == 0)
def refW (cs : CS) (x v : Int) : CS := if (accW cs x v cs.length).2 then (accW cs x v cs.length).1 else (accW cs x v cs.length).1 ++ [(x, v)]
theorem accW_succ {cs : CS} {k : Nat} (x v : Int) (h : k < cs.length) : accW cs x v (k + 1) = stepW x v (accW cs x v k) (cs.getD k (0, 0)) := by
  unfold accW
  have e : cs.getD k (0, 0) = cs[k] := by simp [List.getD, h]
  rw [List.take_add_one, List.getElem?_eq_getElem h, e, List.foldl_append]
  rfl
theorem accW_len (cs : CS) (x v : Int) : ∀ k, k ≤ cs.length → (accW cs x v k).1.length ≤ k + (if (accW cs x v k).2 then 1 else 0)
  | 0, _ => by simp [accW]
  | k + 1, h => by
    have ih := accW_len cs x v k (by omega)
    rw [accW_succ x v (by omega)]
    obtain ⟨st, hst⟩ : ∃ st, st = accW cs x v k := ⟨_, rfl⟩
    rw [← hst] at ih ⊢
    obtain ⟨l, b⟩ := st
    unfold stepW
    cases b <;> by_cases h1 : x ≤ (cs.getD k (0, 0)).1 <;> by_cases h2 : (cs.getD k (0, 0)).1 = x <;> simp only [h1, h2, decide_true, decide_false, Bool.not_true, Bool.not_false, Bool.and_true, Bool.and_false, if_true, if_false, List.length_append, List.length_singleton, Int.le_refl] at ih ⊢ <;> simp at ih ⊢ <;> omega
theorem accW_len' (cs : CS) (x v : Int) (k : Nat) (h : k ≤ cs.length) : (accW cs x v k).1.length ≤ k + 1 := by
  have := accW_len cs x v k h
  split at this <;> omega
theorem ins_snoc (q p : Int × Int) (h : q.1 < p.1) : ∀ l : CS, insC q (l ++ [p]) = insC q l ++ [p]
  | [] => by simp [insC, h]
  | y :: r => by
    simp only [List.cons_append, insC]
    split
    · rfl
    · rw [ins_snoc q p h r]; rfl
theorem del_snoc (l : CS) (p : Int × Int) (x : Int) : delC (l ++ [p]) x = delC l x ++ (if p.1 = x then [] else [p]) := by
  unfold delC
  rw [List.filter_append]
  by_cases h : p.1 = x <;> simp [h]
theorem del_none {l : CS} {x : Int} (h : ∀ p ∈ l, p.1 < x) : delC l x = l := by
  unfold delC
  rw [List.filter_eq_self]
  intro p hp
  have := h p hp
  simp; omega
theorem rising_snoc {l : CS} {p : Int × Int} (h : rising (l ++ [p])) : rising l ∧ ∀ q ∈ l, q.1 < p.1 := by
  unfold rising at h
  rw [List.pairwise_append] at h
  exact ⟨h.1, fun q hq => h.2.2 q hq p (by simp)⟩
theorem snoc_ind {P : CS → Prop} (h0 : P []) (h1 : ∀ l p, P l → P (l ++ [p])) (l : CS) : P l := by
  have : ∀ m : CS, P m.reverse := by
    intro m
    induction m with
    | nil => exact h0
    | cons a m ih => rw [List.reverse_cons]; exact h1 _ _ ih
  have := this l.reverse
  rwa [List.reverse_reverse] at this
/-- What stands behind the cells l. -/
def AccLaw (x v : Int) (l : CS) : Prop := rising l → ((v = 0 → (l.foldl (stepW x v) ([], v == 0)) = (delC l x, true)) ∧
    (v ≠ 0 → (l.foldl (stepW x v) ([], v == 0)) = if (∀ p ∈ l, p.1 < x) then (l, false) else (putC l x v, true)))
theorem acc_law (x v : Int) (l : CS) : AccLaw x v l := by
  refine snoc_ind (P := AccLaw x v) ?_ ?_ l
  · intro _
    exact ⟨fun h => by simp [h, delC], fun h => by simp [h]⟩
  · intro l p ih hr
    obtain ⟨hr1, hp⟩ := rising_snoc hr
    obtain ⟨i1, i2⟩ := ih hr1
    refine ⟨fun h => ?_, fun h => ?_⟩
    · rw [List.foldl_append, i1 h, del_snoc]
      by_cases e : p.1 = x <;> simp [stepW, e]
    · rw [List.foldl_append, i2 h]
      by_cases hl : ∀ q ∈ l, q.1 < x
      · rw [if_pos hl]
        by_cases hpx : p.1 < x
        · rw [if_pos (by intro q hq; rcases List.mem_append.1 hq with h | h; exact hl q h; simp at h; rw [h]; exact hpx)]
          have e1 : ¬ x ≤ p.1 := by omega
          have e2 : ¬ p.1 = x := by omega
          simp [stepW, e1, e2]
        · rw [if_neg (by intro h; exact hpx (h p (by simp)))]
          have e1 : x ≤ p.1 := by omega
          unfold putC
          rw [del_snoc, del_none hl]
          by_cases e : p.1 = x
          · simp [stepW, e]
            exact (ins_last (x, v) l hl).symm
          · rw [if_neg e, ins_snoc _ _ (by show x < p.1; omega), ins_last (x, v) l hl]
            simp [stepW, e, e1]
      · rw [if_neg hl]
        have hpx : x < p.1 := by
          have : ∃ q ∈ l, x ≤ q.1 := by
            apply Classical.byContradiction
            intro hn
            exact hl (fun q hq => by
              apply Classical.byContradiction
              intro h
              exact hn ⟨q, hq, by omega⟩)
          obtain ⟨q, hq, hx⟩ := this
          have := hp q hq
          omega
        rw [if_neg (by intro h; have := h p (by simp); omega)]
        have e2 : ¬ p.1 = x := by omega
        unfold putC
        rw [del_snoc, if_neg e2, ins_snoc _ _ (by show x < p.1; exact hpx)]
        simp [stepW, e2]
theorem refW_law {cs : CS} (h : rising cs) (x v : Int) : refW cs x v = wrC cs x v := by
  have e : accW cs x v cs.length = cs.foldl (stepW x v) ([], v == 0) := by unfold accW; rw [List.take_length]
  unfold refW wrC
  rw [e]
  obtain ⟨h1, h2⟩ := acc_law x v cs h
  by_cases hv : v = 0
  · rw [h1 hv, if_pos hv]; rfl
  · rw [h2 hv, if_neg hv]
    by_cases hl : ∀ q ∈ cs, q.1 < x
    · rw [if_pos hl]
      exact (put_last cs x v hl).symm
    · rw [if_neg hl]; rfl

theorem step_a {x v y u : Int} {xs : CS} (h1 : x ≤ y) (h2 : y ≠ x) : stepW x v (xs, false) (y, u) = (xs ++ [(x, v)] ++ [(y, u)], true) := by simp [stepW, h1, h2]
theorem step_b {x v y u : Int} {xs : CS} (h : y = x) : stepW x v (xs, false) (y, u) = (xs ++ [(x, v)], true) := by simp [stepW, h]
theorem step_c {x v y u : Int} {xs : CS} {bp : Bool} (h : bp = true ∨ y < x) (h2 : y ≠ x) : stepW x v (xs, bp) (y, u) = (xs ++ [(y, u)], bp) := by
  rcases h with rfl | h
  · simp [stepW, h2]
  · have : ¬ x ≤ y := by omega
    simp [stepW, h2, this]
theorem step_d {x v y u : Int} {xs : CS} (h : y = x) : stepW x v (xs, true) (y, u) = (xs, true) := by simp [stepW, h]
/-! ### walked -/
/-- A list of cells of the call's own (the call began at w). -/
def OwnC (w wr : World) (out : Value) (xs : CS) : Prop := Row wr 49 2 out xs.length (flatC xs) ∧ Below w.heap.size w wr ∧ ∀ g, out.ownBlock = some g → w.heap.size ≤ g
theorem OwnC.start (w : World) : OwnC w w (.slice none 0 0) [] := ⟨World.ownsRow_nil _ _ _ _, Below.refl _ _, fun k hk => by simp [Value.ownBlock] at hk⟩
theorem wpList_appC {w wr : World} {ops : Array Oper} {rest : List Oper} {o : Oper} {a : Act} {Q : Exit → Act → World → Prop} (hgd : o.guard = none) (s x : Operand)
    (ho : o.op = .call { callee := .builtin .append, args := #[s, x], argTypes := #[22, 22] })
    (v : Value) (xs : CS) (hs : a.eval s = v) (hown : OwnC w wr v xs) (p q : Int) (hx : a.eval x = .slice (some ⟨wr.heap.size, 0, none⟩) 1 1) (hl : xs.length ≤ 1099511627776)
    (h : ∀ v' w', OwnC w w' v' (xs ++ [(p, q)]) → wpList Try.prog ops Q rest (a.put o.dst v') w') : wpList Try.prog ops Q (o :: rest) a (wr.alloc (.cells #[.int .u64 p, .int .u64 q] 49)) := by
  refine wpList_app hgd s x 22 ho 49 (.agg #[.int .u64 0, .int .u64 0]) 2 16 Try.underlying22 infoC rfl (by decide) v xs.length (flatC xs) hs (hown.1.alloc _) wr.heap.size 0 1 1 [.int .u64 p, .int .u64 q] hx rfl ?_ ?_ ?_ ?_ ?_
  · intro j u hu
    match j, hu with
    | 0, hu => simp at hu; subst hu; simp [World.cell?_alloc_at]
    | 1, hu => simp at hu; subst hu; simp [World.cell?_alloc_at]
  · intro u hu; simp at hu; rcases hu with rfl | rfl <;> rfl
  · unfold maxLen; omega
  · omega
  · intro v' w' hp
    obtain ⟨p1, p2, p3⟩ := hp
    refine h v' w' ⟨?_, ?_, fun g hg => ?_⟩
    · have e : flatC (xs ++ [(p, q)]) = flatC xs ++ [.int .u64 p, .int .u64 q] := by simp [flatC, encC]
      rw [e, List.length_append, List.length_singleton]
      exact p1
    · have hsz := hown.2.1.size
      refine (hown.2.1.trans (((Below.refl _ wr).alloc (Nat.le_refl _) _).mono hsz)).trans (p2.below (by simp; omega) (fun i hi => hown.2.2 i hi))
    · rcases p3 with e | e
      · rw [e] at hg; exact hown.2.2 g hg
      · rw [e] at hg; simp at hg; have := hown.2.1.size; omega
theorem OwnC.pairs {w wr : World} {out : Value} {xs : CS} (h : OwnC w wr out xs) (hwf : ∀ p ∈ xs, wf p.1 ∧ wf p.2) : Pairs wr out xs := by
  rcases h.1.form with ⟨rfl, h0, -⟩ | ⟨g, cap, rfl, h1, h2, h3, h4⟩
  · have : xs = [] := List.eq_nil_of_length_eq_zero h0
    subst this
    exact pairs_nil _
  · refine ⟨_, cap, rfl, h1, h2, hwf, .inr ⟨g, 0, rfl, h3, fun j hj => ?_⟩⟩
    obtain ⟨q1, q2⟩ := flatC_get xs undef j hj
    have a1 := (h4 (j * 2) (by rw [flatC_len]; omega)).1
    have a2 := (h4 (j * 2 + 1) (by rw [flatC_len]; omega)).1
    rw [q1] at a1
    rw [q2] at a2
    exact ⟨by rw [Nat.zero_add]; exact a1, by rw [Nat.zero_add]; exact a2⟩
/-- What stands behind k rounds. -/
def WriteRel (cs : CS) (x v : Int) (k : Nat) (w wr : World) (out put : Value) : Prop := OwnC w wr out (accW cs x v k).1 ∧ put = .bool (accW cs x v k).2
set_option maxHeartbeats 2000000 in
set_option maxRecDepth 100000 in
theorem r11_Write {w : World} {l : Value} {cs : CS} (h : Pairs w l cs) (hs : cs.length ≤ 1000000) (x v : Int) (hx : wf x) (hv : wf v) :
    Calls Try.prog 19 #[l, .int .u64 x, .int .u64 v] w fun e w' => ∃ u, e = .returned u ∧ OwnC w w' u (refW cs x v) := by
  obtain ⟨a, cap, rfl, hc1, hc2, -, hcell⟩ := h
  obtain ⟨n, hn⟩ : ∃ n, n = cs.length := ⟨_, rfl⟩
  rw [← hn] at hc1 hs ⊢
  have hm : n ≤ 9223372036854775807 := by omega
  have HN := Lib.hid hn
  have HV : Hid (cs = [] ∨ ∃ b off, a = some ⟨b, off, none⟩ ∧ b < w.heap.size ∧ ∀ wr, Below w.heap.size w wr → ∀ j, j < cs.length → wr.cell? ⟨b, off + j * 2, none⟩ = some (.int .u64 (cs.getD j (0, 0)).1) ∧ wr.cell? ⟨b, off + j * 2 + 1, none⟩ = some (.int .u64 (cs.getD j (0, 0)).2)) := by
    refine Lib.hid ?_
    rcases hcell with h | ⟨b, off, h1, h2, h3⟩
    · exact .inl h
    · refine .inr ⟨b, off, h1, h2, fun wr hwr j hj => ?_⟩
      have e := hwr.block b h2
      exact ⟨by rw [World.cell?_of_block (w := w) e]; exact (h3 j hj).1, by rw [World.cell?_of_block (w := w) e]; exact (h3 j hj).2⟩
  clear hcell hn hc1 hc2
  go_enter Try.func19, Try.ntmps19
  go_wp2
  go_loopw [7, 8, 9] (fun out put i wr => ∃ k : Nat, k ≤ n ∧ i = .int .i64 k ∧ WriteRel cs x v k w wr out put) (fun _ _ i _ => n - (intOf i).toNat)
  case atStart => exact ⟨0, Nat.zero_le _, rfl, OwnC.start w, rfl⟩
  case round =>
    obtain ⟨k, hk, rfl, hrel, rfl⟩ := hrel
    have HA := Lib.hid hrel
    clear hrel
    have HL : Hid ((accW cs x v k).1.length ≤ k + 1) := Lib.hid (accW_len' cs x v k (by have := HN.out; omega))
    by_cases hlt : (k : Int) < (n : Int)
    · have hkn : k < cs.length := by have := HN.out; omega
      have hne : cs ≠ [] := fun e => by rw [e] at hkn; simp at hkn
      obtain ⟨b, off, rfl, hbl, hcell⟩ := HV.out.resolve_left hne
      have HC := Lib.hid hcell
      have HS : Hid (accW cs x v (k + 1) = stepW x v (accW cs x v k) (cs.getD k (0, 0))) := Lib.hid (accW_succ x v hkn)
      obtain ⟨q1, q2⟩ := hcell wr HA.out.2.1 k hkn
      obtain ⟨y, hy⟩ : ∃ y, y = (cs.getD k (0, 0)).1 := ⟨_, rfl⟩
      obtain ⟨u, hu⟩ : ∃ u, u = (cs.getD k (0, 0)).2 := ⟨_, rfl⟩
      rw [← hy] at q1
      rw [← hu] at q2
      obtain ⟨st, hst⟩ : ∃ st, st = accW cs x v k := ⟨_, rfl⟩
      rw [← hst] at HS HL HA ⊢
      obtain ⟨xs, bp⟩ := st
      have HT : Hid (accW cs x v (k + 1) = stepW x v (xs, bp) (y, u)) := Lib.hid (by rw [HS.out, hy, hu])
      have HY := Lib.hid hy
      have HU := Lib.hid hu
      have HK := Lib.hid hkn
      have HL1 : Hid (xs.length ≤ 1099511627776) := Lib.hid (by have := HL.out; simp at this; omega)
      have HL2 : Hid ((xs ++ [(x, v)]).length ≤ 1099511627776) := Lib.hid (by have := HL.out; simp at this ⊢; omega)
      simp only at HA ⊢
      clear hcell hkn hne hy hu hst HS HL
      cases bp
      · by_cases hxy : x ≤ y
        · have d1 : decide (x ≤ y) = true := decide_eq_true hxy
          by_cases he : y = x
          · have d2 : (y != x) = false := by rw [he]; simp
            have HE := Lib.hid he
            clear he
            go_wp2_with (at_builtin; refine wpList_appC (w := w) rfl _ _ rfl _ _ rfl HA.out _ _ rfl HL1.out ?_; intro v1 w1 h1; obtain ⟨r1, r2⟩ := HC.out w1 h1.2.1 k HK.out; rw [← HY.out] at r1; have H1 := Lib.hid h1; clear h1)
            go_roundw
            case rel => exact ⟨k + 1, by omega, by go_num, by rw [HT.out, step_b HE.out]; exact H1.out, by rw [HT.out, step_b HE.out]⟩
            case measure => simp [intOf]; omega
          · have d2 : (y != x) = true := by rw [bne_iff_ne]; exact he
            have HE := Lib.hid he
            clear he
            go_wp2_with (first | (at_builtin; refine wpList_appC (w := w) rfl _ _ rfl _ _ rfl HA.out _ _ rfl HL1.out ?_; intro v1 w1 h1; obtain ⟨r1, r2⟩ := HC.out w1 h1.2.1 k HK.out; rw [← HY.out] at r1; rw [← HU.out] at r2; have H1 := Lib.hid h1; clear h1) | (at_builtin; refine wpList_appC (w := w) rfl _ _ rfl _ _ rfl H1.out _ _ rfl HL2.out ?_; intro v2 w2 h2; have H2 := Lib.hid h2; clear h2))
            go_roundw
            case rel => exact ⟨k + 1, by omega, by go_num, by rw [HT.out, step_a hxy HE.out]; exact H2.out, by rw [HT.out, step_a hxy HE.out]⟩
            case measure => simp [intOf]; omega
        · have d1 : decide (x ≤ y) = false := decide_eq_false hxy
          have d2 : (y != x) = true := by rw [bne_iff_ne]; omega
          go_wp2_with (at_builtin; refine wpList_appC (w := w) rfl _ _ rfl _ _ rfl HA.out _ _ rfl HL1.out ?_; intro v1 w1 h1; have H1 := Lib.hid h1; clear h1)
          go_roundw
          case rel => exact ⟨k + 1, by omega, by go_num, by rw [HT.out, step_c (.inr (by omega)) (by omega)]; exact H1.out, by rw [HT.out, step_c (.inr (by omega)) (by omega)]⟩
          case measure => simp [intOf]; omega
      · by_cases he : y = x
        · have d2 : (y != x) = false := by rw [he]; simp
          have HE := Lib.hid he
          clear he
          go_wp2_with fail
          go_roundw
          case rel => exact ⟨k + 1, by omega, by go_num, by rw [HT.out, step_d HE.out]; exact HA.out, by rw [HT.out, step_d HE.out]⟩
          case measure => simp [intOf]; omega
        · have d2 : (y != x) = true := by rw [bne_iff_ne]; exact he
          have HE := Lib.hid he
          clear he
          go_wp2_with (at_builtin; refine wpList_appC (w := w) rfl _ _ rfl _ _ rfl HA.out _ _ rfl HL1.out ?_; intro v1 w1 h1; have H1 := Lib.hid h1; clear h1)
          go_roundw
          case rel => exact ⟨k + 1, by omega, by go_num, by rw [HT.out, step_c (.inl rfl) HE.out]; exact H1.out, by rw [HT.out, step_c (.inl rfl) HE.out]⟩
          case measure => simp [intOf]; omega
    · have hkn : k = cs.length := by have := HN.out; omega
      have HF : Hid (refW cs x v = if (accW cs x v k).2 then (accW cs x v k).1 else (accW cs x v k).1 ++ [(x, v)]) := Lib.hid (by unfold refW; rw [hkn])
      have HL1 : Hid ((accW cs x v k).1.length ≤ 1099511627776) := Lib.hid (by have := HL.out; omega)
      obtain ⟨st, hst⟩ : ∃ st, st = accW cs x v k := ⟨_, rfl⟩
      rw [← hst] at HF HL1 HA ⊢
      obtain ⟨xs, bp⟩ := st
      simp only at HA HF HL1 ⊢
      clear hkn hst HL
      cases bp
      · go_wp2_with (at_builtin; refine wpList_appC (w := w) rfl _ _ rfl _ _ rfl HA.out _ _ rfl HL1.out ?_; intro v1 w1 h1; have H1 := Lib.hid h1; clear h1)
        go_ret
        exact ⟨_, rfl, by rw [HF.out]; exact H1.out⟩
      · go_wp2_with fail
        go_ret
        exact ⟨_, rfl, by rw [HF.out]; exact HA.out⟩
end Go.Proofs.Ytpohekmfdbleeaa
