/-
  append from whatever source: cells that lie somewhere, or nil. Over any program.
-/
import Derived.Test.YtkofhilgehhopaaFoot
namespace Go.Proofs.Ytkofhilgehhopaa
open Go Go.RowKit
set_option linter.unusedVariables false
section
variable {P : Program} {w : World}
/-- What an append reads: m elements, the cells news; nil where m is 0. -/
def Src (w : World) (A : Option Addr) (size m : Nat) (news : List Value) : Prop :=
  news.length = m * size ∧ (0 < m → ∃ b off, A = some ⟨b, off, none⟩ ∧ ∀ j u, news[j]? = some u → w.cell? ⟨b, off + j, none⟩ = some u)
theorem Src.nil (w : World) (A : Option Addr) (size : Nat) : Src w A size 0 [] := ⟨by simp, fun h => absurd h (by omega)⟩
theorem Src.chg {w w' : World} {A : Option Addr} {size m : Nat} {news : List Value} {S : Nat → Prop} (h : Src w A size m news) (hc : Chg S w w') (hn : ∀ a, A = some a → 0 < m → ¬ S a.block) : Src w' A size m news := by
  refine ⟨h.1, fun hm => ?_⟩
  obtain ⟨b, off, rfl, hcell⟩ := h.2 hm
  refine ⟨b, off, rfl, fun j u hu => ?_⟩
  have h1 := hcell j u hu
  have hlt := World.block_lt_of_cell? w _ h1
  rw [World.cell?_of_block (w := w) (hc.block b hlt (hn _ rfl hm))]; exact h1
theorem Src.below {w w' : World} {A : Option Addr} {size m : Nat} {news : List Value} (h : Src w A size m news) (hb : Below w.heap.size w w') : Src w' A size m news := h.chg (S := fun _ => False) (Chg.of_below hb) (fun _ _ _ h => h)
/-- What lies in a block of one element that was laid for it. -/
theorem Src.one {w : World} {g : Nat} {t : TypeId} {u : Value} (h : w.heap[g]? = some (.cells #[u] t (0, 0))) : Src w (some ⟨g, 0, none⟩) 1 1 [u] := by
  have hB : Blk w g t #[u] := h
  refine ⟨rfl, fun _ => ⟨g, 0, rfl, fun j v hv => ?_⟩⟩
  match j, hv with
  | 0, hv => simp at hv; subst hv; rw [hB.cell]; rfl
theorem Row.src {e : TypeId} {A : Option Addr} {n n' cap : Nat} {xs : List Value} (h : Row w e 1 (.slice A n' cap) n xs) : Src w A 1 n xs := by
  refine ⟨h.1, fun hn => ?_⟩
  rcases h.form with ⟨-, h0, -⟩ | ⟨g, cap', h', -, -, -, hc⟩
  · omega
  · injection h' with e1 e2 e3
    refine ⟨g, 0, e1, fun j u hu => ?_⟩
    have hj := (List.getElem?_eq_some_iff.1 hu).1
    have := (hc j hj).1
    rw [Nat.zero_add, this, List.getD_eq_getElem?_getD, hu]
    rfl
theorem Src.take {A : Option Addr} {n : Nat} {xs : List Value} (h : Src w A 1 n xs) {k : Nat} (hk : k ≤ n) : Src w A 1 k (xs.take k) := by
  refine ⟨by rw [List.length_take, h.1]; omega, fun h0 => ?_⟩
  obtain ⟨b, off, e, hc⟩ := h.2 (by omega)
  refine ⟨b, off, e, fun j u hu => hc j u ?_⟩
  have hj : j < k := by have := (List.getElem?_eq_some_iff.1 hu).1; rw [List.length_take] at this; omega
  rw [List.getElem?_take_of_lt hj] at hu
  exact hu
theorem Src.drop {A A' : Option Addr} {n : Nat} {xs : List Value} (h : Src w A 1 n xs) {k : Nat} (hk : k ≤ n) (hA : k < n → A' = A.map (·.add k)) : Src w A' 1 (n - k) (xs.drop k) := by
  refine ⟨by rw [List.length_drop, h.1]; omega, fun h0 => ?_⟩
  obtain ⟨b, off, rfl, hc⟩ := h.2 (by omega)
  have hA := hA (by omega)
  subst hA
  refine ⟨b, off + k, ?_, fun j u hu => ?_⟩
  · simp only [Option.map_some, Option.some.injEq]
    unfold Addr.add; split <;> simp_all
  · rw [Nat.add_assoc]
    exact hc _ u (by rw [← hu, List.getElem?_drop])
theorem run_appNone (t ty e : TypeId) (z : Value) (size bytes : Nat) (ht : P.underlying t = some (.slice e)) (hinfo : (P.info? e).map (fun i => (i.zero, i.size, i.bytes)) = some (some z, size, bytes))
    (v : Value) (n : Nat) (xs : List Value) (hown : Row w e size v n xs) (c : Nat) : (Builtin.append_ #[t, t] ty #[v, .slice none 0 c]).run P w = .ok v w := by
  obtain ⟨i0, hi, -, -, -⟩ := info_parts hinfo
  rcases hown.2 with ⟨rfl, -⟩ | ⟨g, cap, cur, rfl, -, -, hnc, -⟩ <;> simp [Builtin.append_, run_underlying ht, sizeOf, typeInfo, hi, Builtin.lenOf, Builtin.firstCells]
  simp [hnc, storeCells]
theorem run_appS (t ty e : TypeId) (z : Value) (size bytes : Nat) (ht : P.underlying t = some (.slice e)) (hinfo : (P.info? e).map (fun i => (i.zero, i.size, i.bytes)) = some (some z, size, bytes)) (hzs : z.cells.size = size) (hsz : 0 < size)
    (v : Value) (n : Nat) (xs : List Value) (hown : Row w e size v n xs) (A : Option Addr) (m c : Nat) (news : List Value) (hsrc : Src w A size m news) (h1 : ∀ u ∈ news, u.oneCell' = true)
    (h63 : n + m ≤ maxLen) (hbytes : (n + m) * bytes ≤ 140737488355328) :
    ∃ v' w', (Builtin.append_ #[t, t] ty #[v, .slice A m c]).run P w = .ok v' w' ∧ AppPost w e size v (n + m) (xs ++ news) v' w' := by
  rcases A with _ | ad
  · have hm : m = 0 := by
      rcases Nat.eq_zero_or_pos m with h | h
      · exact h
      · obtain ⟨b, off, h, -⟩ := hsrc.2 h; cases h
    subst hm
    have hn : news = [] := List.eq_nil_of_length_eq_zero (by have := hsrc.1; simpa using this)
    subst hn
    exact ⟨v, w, run_appNone t ty e z size bytes ht hinfo v n xs hown c, by simpa using hown, Chg.refl _ _, .inl rfl⟩
  · obtain ⟨i0, hi, hz0, hz1, hz2⟩ := info_parts hinfo
    obtain ⟨v', w', hr, h2, h3, _, h5⟩ := run_append_own_at (P := P) w 0 t ty e i0 z size bytes ht hi hz0 hz1 hz2 hzs hsz v n xs hown ad m c news hsrc.1 (by
      intro j u hj
      have hm : 0 < m := by
        rcases Nat.eq_zero_or_pos m with h | h
        · subst h
          have hn : news = [] := List.eq_nil_of_length_eq_zero (by have := hsrc.1; simpa using this)
          subst hn; simp at hj
        · exact h
      obtain ⟨b, off, e1, hc⟩ := hsrc.2 hm
      injection e1 with e1
      subst e1
      have e : (⟨b, off, none⟩ : Addr).add j = ⟨b, off + j, none⟩ := by unfold Addr.add; split <;> simp_all
      rw [e]; exact hc j u hj) h1 h63 hbytes (Nat.zero_le _)
    exact ⟨v', w', hr, h2, Chg.of_grown h3 (fun k hk => hk), h5⟩
theorem wp_appS {o : Oper} {a : Act} {K : Act → World → Prop} {Q : Exit → Act → World → Prop} (s x : Operand) (t : TypeId)
    (ho : o.op = .call { callee := .builtin .append, args := #[s, x], argTypes := #[t, t] })
    (e : TypeId) (z : Value) (size bytes : Nat) (ht : P.underlying t = some (.slice e)) (hinfo : (P.info? e).map (fun i => (i.zero, i.size, i.bytes)) = some (some z, size, bytes)) (hzs : z.cells.size = size) (hsz : 0 < size)
    (v : Value) (n : Nat) (xs : List Value) (hs : a.eval s = v) (hown : Row w e size v n xs) (A : Option Addr) (m c : Nat) (news : List Value) (hx : a.eval x = .slice A m c) (hsrc : Src w A size m news) (h1 : ∀ u ∈ news, u.oneCell' = true)
    (h63 : n + m ≤ maxLen) (hbytes : (n + m) * bytes ≤ 140737488355328)
    (h : ∀ v' w', AppPost w e size v (n + m) (xs ++ news) v' w' → K (a.put o.dst v') w') : o.wp P a w K Q := by
  obtain ⟨v', w', hrun, hp⟩ := run_appS (P := P) t o.type e z size bytes ht hinfo hzs hsz v n xs hown A m c news hsrc h1 h63 hbytes
  unfold Oper.wp execOp
  simp only [ho, resolve, invoke, builtin, Sem.run_bind, Sem.run_pure, Result.andThen_ok, List.map_toArray, List.map_cons, List.map_nil, hs, hx, hrun]
  exact h v' w' hp
theorem wpList_appS {ops : Array Oper} {rest : List Oper} {o : Oper} {a : Act} {Q : Exit → Act → World → Prop} (hgd : o.guard = none) (s x : Operand) (t : TypeId)
    (ho : o.op = .call { callee := .builtin .append, args := #[s, x], argTypes := #[t, t] })
    (e : TypeId) (z : Value) (size bytes : Nat) (ht : P.underlying t = some (.slice e)) (hinfo : (P.info? e).map (fun i => (i.zero, i.size, i.bytes)) = some (some z, size, bytes)) (hzs : z.cells.size = size) (hsz : 0 < size)
    (v : Value) (n : Nat) (xs : List Value) (hs : a.eval s = v) (hown : Row w e size v n xs) (A : Option Addr) (m c : Nat) (news : List Value) (hx : a.eval x = .slice A m c) (hsrc : Src w A size m news) (h1 : ∀ u ∈ news, u.oneCell' = true)
    (h63 : n + m ≤ maxLen) (hbytes : (n + m) * bytes ≤ 140737488355328)
    (h : ∀ v' w', AppPost w e size v (n + m) (xs ++ news) v' w' → wpList P ops Q rest (a.put o.dst v') w') : wpList P ops Q (o :: rest) a w :=
  wpList_plain hgd fun _ hK => wp_appS s x t ho e z size bytes ht hinfo hzs hsz v n xs hs hown A m c news hx hsrc h1 h63 hbytes fun v' w' hp => hK _ _ (h v' w' hp)
theorem step_appS {ops : Array Oper} {o : Oper} {a : Act} {K : Act → World → Prop} {Q : Exit → Act → World → Prop} {E : Prop} (hgd : o.guard = none) (s x : Operand) (t : TypeId)
    (ho : o.op = .call { callee := .builtin .append, args := #[s, x], argTypes := #[t, t] })
    (e : TypeId) (z : Value) (size bytes : Nat) (ht : P.underlying t = some (.slice e)) (hinfo : (P.info? e).map (fun i => (i.zero, i.size, i.bytes)) = some (some z, size, bytes)) (hzs : z.cells.size = size) (hsz : 0 < size)
    (v : Value) (n : Nat) (xs : List Value) (hs : a.eval s = v) (hown : Row w e size v n xs) (A : Option Addr) (m c : Nat) (news : List Value) (hx : a.eval x = .slice A m c) (hsrc : Src w A size m news) (h1 : ∀ u ∈ news, u.oneCell' = true)
    (h63 : n + m ≤ maxLen) (hbytes : (n + m) * bytes ≤ 140737488355328)
    (h : ∀ v' w', AppPost w e size v (n + m) (xs ++ news) v' w' → K (a.put o.dst v') w') :
    if Region.wanted o (yielded ops a.tmps) = true then Oper.wp P o a w K Q else E := by
  have hw : Region.wanted o (yielded ops a.tmps) = true := by simp [Region.wanted, hgd]
  rw [if_pos hw]
  exact wp_appS s x t ho e z size bytes ht hinfo hzs hsz v n xs hs hown A m c news hx hsrc h1 h63 hbytes h
end
end Go.Proofs.Ytkofhilgehhopaa
