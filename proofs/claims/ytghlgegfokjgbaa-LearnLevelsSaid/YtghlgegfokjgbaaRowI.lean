/-
  Rows of numbers of a call's own, such as may be cut down to nothing.
-/
import Derived.Test.YtghlgegfokjgbaaClone
import Derived.Test.YtghlgegfokjgbaaIntsS
namespace Go.Proofs.Ytghlgegfokjgbaa
open Go.ChangeShapes Go.WideShapes Go.ChangeAt Go.RowKit
set_option linter.unusedVariables false
/-- The slice v holds the numbers xs, in block g (none: in none; what is appended goes to a new one). -/
def LR (w : World) (v : Value) (xs : List Int) (g : Option Nat) : Prop := (Row w 3 1 v xs.length (xs.map iv) ∧ v.ownBlock = g) ∨ (xs = [] ∧ g = none ∧ ∃ a, v = .slice (some a) 0 0)
theorem LR.nil (w : World) : LR w (.slice none 0 0) [] none := .inl ⟨World.ownsRow_nil _ _ _ _, rfl⟩
theorem LR.form {w : World} {v : Value} {xs : List Int} {g : Option Nat} (h : LR w v xs g) : ∃ a cap, v = .slice a xs.length cap ∧ xs.length ≤ cap ∧ cap ≤ maxLen := by
  rcases h with ⟨h, -⟩ | ⟨rfl, -, a, rfl⟩
  · rcases h.form with ⟨rfl, h0, -⟩ | ⟨b, cap, rfl, h1, h2, -, -⟩
    · exact ⟨_, _, by rw [h0], by omega, by simp⟩
    · exact ⟨_, _, rfl, h1, h2⟩
  · exact ⟨_, _, rfl, by simp, by simp⟩
theorem LR.ints {w : World} {v : Value} {xs : List Int} {g : Option Nat} (h : LR w v xs g) : Ints w v xs := by
  rcases h with ⟨h, -⟩ | ⟨rfl, -, a, rfl⟩
  · exact Row.ints h
  · exact ⟨some a, 0, rfl, (fun h => by cases h), by simp, by simp, .inl rfl⟩
theorem LR.lt {w : World} {v : Value} {xs : List Int} {g : Option Nat} (h : LR w v xs g) : ∀ b, g = some b → b < w.heap.size := by
  rcases h with ⟨h, rfl⟩ | ⟨-, rfl, -⟩
  · exact h.lt
  · intro b hb; cases hb
theorem LR.chg {w w' : World} {v : Value} {xs : List Int} {g : Option Nat} {S : Nat → Prop} (h : LR w v xs g) (hc : Chg S w w') (hn : ∀ b, g = some b → ¬ S b) : LR w' v xs g := by
  rcases h with ⟨h, rfl⟩ | h
  · exact .inl ⟨h.chg hc hn, rfl⟩
  · exact .inr h
theorem LR.below {w w' : World} {v : Value} {xs : List Int} {g : Option Nat} (h : LR w v xs g) (hb : Below w.heap.size w w') : LR w' v xs g := h.chg (S := fun _ => False) (Chg.of_below hb) (fun _ _ h => h)
theorem LR.alloc {w : World} {v : Value} {xs : List Int} {g : Option Nat} (h : LR w v xs g) (o : Obj) : LR (w.alloc o) v xs g := h.below ((Below.refl _ _).alloc (Nat.le_refl _) _)
theorem LR.drew {w : World} {v : Value} {xs : List Int} {g : Option Nat} (h : LR w v xs g) : LR w.drew v xs g := h.chg (S := fun _ => False) ((Chg.refl _ _).drew) (fun _ _ h => h)
/-- Where the j-th number lies. -/
theorem LR.at_ {w : World} {v : Value} {xs : List Int} {g : Option Nat} (h : LR w v xs g) {j : Nat} (hj : j < xs.length) :
    ∃ b cap, v = .slice (some ⟨b, 0, none⟩) xs.length cap ∧ g = some b ∧ w.cell? ⟨b, j, none⟩ = some (.int .i64 (xs.getD j 0)) ∧ w.frozen? ⟨b, j, none⟩ = false := by
  rcases h with ⟨h, rfl⟩ | ⟨rfl, -⟩
  · rcases h.form with ⟨-, h0, -⟩ | ⟨b, cap, rfl, h1, h2, h3, h4⟩
    · omega
    · obtain ⟨q1, q2⟩ := h4 j (by simpa using hj)
      refine ⟨b, cap, rfl, rfl, ?_, q2⟩
      rw [q1]
      simp [List.getD, hj, iv]
  · simp at hj
/-- A row that has been made. -/
theorem LR.of_row {w : World} {v : Value} {xs : List Int} (h : Row w 3 1 v xs.length (xs.map iv)) : LR w v xs v.ownBlock := .inl ⟨h, rfl⟩
/-- One number is written. -/
theorem LR.set1 {w : World} {b cap : Nat} {xs : List Int} {g : Option Nat} (h : LR w (.slice (some ⟨b, 0, none⟩) xs.length cap) xs g) (hg : g = some b) (j : Nat) (y : Int) :
    LR (w.setCell ⟨b, j, none⟩ (.int .i64 y)) (.slice (some ⟨b, 0, none⟩) (xs.set j y).length cap) (xs.set j y) g := by
  rcases h with ⟨h, h2⟩ | ⟨-, h2, -⟩
  · refine .inl ⟨?_, h2⟩
    have := h.set1 j (.int .i64 y)
    rw [List.length_set]
    rw [List.map_set]
    exact this
  · rw [hg] at h2; cases h2
/-- A row's beginning. -/
theorem LR.take {w : World} {a : Option Addr} {cap : Nat} {xs : List Int} {g : Option Nat} (h : LR w (.slice a xs.length cap) xs g) (k : Nat) (hk : k ≤ xs.length) :
    LR w (.slice a k cap) (xs.take k) g := by
  have hl : (xs.take k).length = k := by rw [List.length_take]; omega
  rcases h with ⟨h, h2⟩ | ⟨h1, h2, b, h3⟩
  · cases a with
    | none =>
      have hr := h
      rcases h.form with ⟨h3, h4, -⟩ | ⟨b, cap, h3, -⟩
      · injection h3 with _ _ h3
        subst h3
        have : xs = [] := List.eq_nil_of_length_eq_zero h4
        subst this
        obtain rfl : k = 0 := by simpa using hk
        exact .inl ⟨h, h2⟩
      · cases h3
    | some ad =>
      rcases h.form with ⟨h3, -⟩ | ⟨b, cap', h3, -⟩
      · cases h3
      · injection h3 with e1 e2 e3
        injection e1 with e1
        subst e1 e3
        have := h.take k hk
        refine .inl ⟨?_, h2⟩
        rw [hl]
        simpa [List.map_take] using this
  · subst h1
    obtain rfl : k = 0 := by simpa using hk
    exact .inr ⟨rfl, h2, b, h3⟩
/-- The same, nil where there are none. -/
def CL (w : World) (v : Value) (xs : List Int) (g : Option Nat) : Prop := LR w v xs g ∧ (xs = [] → v = .slice none 0 0)
theorem CL.lt {w : World} {v : Value} {xs : List Int} {g : Option Nat} (h : CL w v xs g) : ∀ b, g = some b → b < w.heap.size := h.1.lt
theorem CL.chg {w w' : World} {v : Value} {xs : List Int} {g : Option Nat} {S : Nat → Prop} (h : CL w v xs g) (hc : Chg S w w') (hn : ∀ b, g = some b → ¬ S b) : CL w' v xs g := ⟨h.1.chg hc hn, h.2⟩
theorem CL.below {w w' : World} {v : Value} {xs : List Int} {g : Option Nat} (h : CL w v xs g) (hb : Below w.heap.size w w') : CL w' v xs g := ⟨h.1.below hb, h.2⟩
section
variable {P : Program} {w : World}
/-- What an append leaves. -/
def LRPost (w : World) (g : Option Nat) (xs : List Int) (v' : Value) (w' : World) : Prop :=
  ∃ g', LR w' v' xs g' ∧ Chg (fun k => g = some k) w w' ∧ (g' = g ∨ g' = some w.heap.size)
theorem run_appLR (t ty : TypeId) (ht : P.underlying t = some (.slice 3)) (hinfo : (P.info? 3).map (fun i => (i.zero, i.size, i.bytes)) = some (some (.int .i64 0), 1, 8))
    (v : Value) (xs : List Int) (g : Option Nat) (hown : LR w v xs g) (ad : Addr) (m c : Nat) (news : List Int) (hl : news.length = m) (hnews : ∀ j, j < news.length → w.cell? (ad.add j) = some (.int .i64 (news.getD j 0)))
    (h63 : xs.length + m ≤ 1099511627776) :
    ∃ v' w', (Builtin.append_ #[t, t] ty #[v, .slice (some ad) m c]).run P w = .ok v' w' ∧ LRPost w g (xs ++ news) v' w' := by
  have hnc : ∀ j u, (news.map iv)[j]? = some u → w.cell? (ad.add j) = some u := by
    intro j u hj
    simp only [List.getElem?_map, Option.map_eq_some_iff] at hj
    obtain ⟨x, hx, rfl⟩ := hj
    have hj := (List.getElem?_eq_some_iff.1 hx).1
    rw [hnews j hj]
    simp [List.getD, hx, iv]
  have h1 : ∀ u ∈ news.map iv, u.oneCell' = true := by
    intro u hu
    obtain ⟨x, -, rfl⟩ := List.mem_map.1 hu
    rfl
  obtain ⟨i0, hi, hz0, hz1, hz2⟩ := info_parts hinfo
  rcases hown with ⟨h, rfl⟩ | ⟨rfl, rfl, a, rfl⟩
  · obtain ⟨v', w', hr, h2, h3, _, h5⟩ := run_append_own_at (P := P) w 0 t ty 3 i0 (.int .i64 0) 1 8 ht hi hz0 hz1 hz2 rfl (by decide) v xs.length (xs.map iv) h ad m c (news.map iv) (by rw [List.length_map, hl]; omega) hnc h1 (by unfold maxLen; omega) (by omega) (Nat.zero_le _)
    refine ⟨v', w', hr, v'.ownBlock, .inl ⟨?_, rfl⟩, Chg.of_grown h3 (fun k hk => hk), h5⟩
    rw [List.length_append, hl, List.map_append]
    exact h2
  · by_cases hm : m = 0
    · subst hm
      have hn : news = [] := List.eq_nil_of_length_eq_zero hl
      subst hn
      refine ⟨.slice (some a) 0 0, w, ?_, none, .inr ⟨rfl, rfl, a, rfl⟩, Chg.refl _ _, .inl rfl⟩
      simp [Builtin.append_, run_underlying ht, sizeOf, typeInfo, hi, Builtin.lenOf, Builtin.firstCells, loadCells, loadCellsFrom, storeCells]
    · have hr := run_append_grow (P := P) w t ty 3 i0 (.int .i64 0) ht hi hz0 a 0 0 [] (by simp) (by simp) ad m c (news.map iv) (by rw [List.length_map, hl, hz1]; omega) hnc (by omega) (by omega) (by
        have := growslice_fits (need := 0 + m) (old := 0) (bytes := 8) (by omega) (by omega)
        rw [hz2]; exact this)
      refine ⟨_, _, hr, some w.heap.size, .inl ⟨?_, rfl⟩, (Chg.refl _ w).drew.alloc _, .inr rfl⟩
      have hge := grownCap_ge w (0 + m) 0 3
      have hcm : grownCap w (0 + m) 0 3 ≤ maxLen := grownCap_le_maxLen w (0 + m) 0 3 (by unfold maxLen; omega)
      simp only [List.nil_append, Nat.zero_add, hl] at hge hcm ⊢
      refine ⟨by simp [hl], .inr ⟨w.heap.size, _, _, rfl, Nat.zero_le _, heap_alloc_new w.drew _, hge, hcm, ?_, ?_⟩⟩
      · simp [size_zeroCells, hl]
        show m + (grownCap w m 0 3 - m) * (Value.cells (.int .i64 0)).size = _
        simp [Value.cells]
        omega
      · have hlm : (news.map iv).length = m * 1 := by simp [hl]
        simp only [Array.toList_append]
        have e : (#[] : Array Value).toList ++ (news.map iv) = news.map iv := rfl
        simp only [List.nil_append]
        rw [← hlm]
        exact List.take_left
theorem wp_appLR {o : Oper} {a : Act} {K : Act → World → Prop} {Q : Exit → Act → World → Prop} (s x : Operand) (t : TypeId)
    (ho : o.op = .call { callee := .builtin .append, args := #[s, x], argTypes := #[t, t] })
    (ht : P.underlying t = some (.slice 3)) (hinfo : (P.info? 3).map (fun i => (i.zero, i.size, i.bytes)) = some (some (.int .i64 0), 1, 8))
    (v : Value) (xs : List Int) (g : Option Nat) (hs : a.eval s = v) (hown : LR w v xs g) (ad : Addr) (m c : Nat) (news : List Int) (hx : a.eval x = .slice (some ad) m c) (hl : news.length = m) (hnews : ∀ j, j < news.length → w.cell? (ad.add j) = some (.int .i64 (news.getD j 0)))
    (h63 : xs.length + m ≤ 1099511627776)
    (h : ∀ v' w', LRPost w g (xs ++ news) v' w' → K (a.put o.dst v') w') : o.wp P a w K Q := by
  obtain ⟨v', w', hrun, hp⟩ := run_appLR (P := P) t o.type ht hinfo v xs g hown ad m c news hl hnews h63
  unfold Oper.wp execOp
  simp only [ho, resolve, invoke, builtin, Sem.run_bind, Sem.run_pure, Result.andThen_ok, List.map_toArray, List.map_cons, List.map_nil, hs, hx, hrun]
  exact h v' w' hp
theorem wpList_appLR {ops : Array Oper} {rest : List Oper} {o : Oper} {a : Act} {Q : Exit → Act → World → Prop} (hgd : o.guard = none) (s x : Operand) (t : TypeId)
    (ho : o.op = .call { callee := .builtin .append, args := #[s, x], argTypes := #[t, t] })
    (ht : P.underlying t = some (.slice 3)) (hinfo : (P.info? 3).map (fun i => (i.zero, i.size, i.bytes)) = some (some (.int .i64 0), 1, 8))
    (v : Value) (xs : List Int) (g : Option Nat) (hs : a.eval s = v) (hown : LR w v xs g) (ad : Addr) (m c : Nat) (news : List Int) (hx : a.eval x = .slice (some ad) m c) (hl : news.length = m) (hnews : ∀ j, j < news.length → w.cell? (ad.add j) = some (.int .i64 (news.getD j 0)))
    (h63 : xs.length + m ≤ 1099511627776)
    (h : ∀ v' w', LRPost w g (xs ++ news) v' w' → wpList P ops Q rest (a.put o.dst v') w') : wpList P ops Q (o :: rest) a w :=
  wpList_plain hgd fun _ hK => wp_appLR s x t ho ht hinfo v xs g hs hown ad m c news hx hl hnews h63 fun v' w' hp => hK _ _ (h v' w' hp)
theorem step_appLR {ops : Array Oper} {o : Oper} {a : Act} {K : Act → World → Prop} {Q : Exit → Act → World → Prop} {E : Prop} (hgd : o.guard = none) (s x : Operand) (t : TypeId)
    (ho : o.op = .call { callee := .builtin .append, args := #[s, x], argTypes := #[t, t] })
    (ht : P.underlying t = some (.slice 3)) (hinfo : (P.info? 3).map (fun i => (i.zero, i.size, i.bytes)) = some (some (.int .i64 0), 1, 8))
    (v : Value) (xs : List Int) (g : Option Nat) (hs : a.eval s = v) (hown : LR w v xs g) (ad : Addr) (m c : Nat) (news : List Int) (hx : a.eval x = .slice (some ad) m c) (hl : news.length = m) (hnews : ∀ j, j < news.length → w.cell? (ad.add j) = some (.int .i64 (news.getD j 0)))
    (h63 : xs.length + m ≤ 1099511627776)
    (h : ∀ v' w', LRPost w g (xs ++ news) v' w' → K (a.put o.dst v') w') :
    if Region.wanted o (yielded ops a.tmps) = true then Oper.wp P o a w K Q else E := by
  have hw : Region.wanted o (yielded ops a.tmps) = true := by simp [Region.wanted, hgd]
  rw [if_pos hw]
  exact wp_appLR s x t ho ht hinfo v xs g hs hown ad m c news hx hl hnews h63 h
end
end Go.Proofs.Ytghlgegfokjgbaa
