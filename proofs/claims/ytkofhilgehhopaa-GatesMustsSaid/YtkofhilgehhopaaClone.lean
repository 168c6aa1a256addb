/-
  slices.Clone at slices of numbers.
-/
import Derived.Test.YtkofhilgehhopaaIntsB
import Derived.Lib.LazyBuf
namespace Go.Proofs.Ytkofhilgehhopaa
open Go.ChangeShapes Go.WideShapes Go.ChangeAt Go.RowKit
set_option linter.unusedVariables false

/-- 'append(s, x...)' from wherever x lies. -/
theorem wpList_appA {P : Program} {w : World} {ops : Array Oper} {rest : List Oper} {o : Oper} {a : Act} {Q : Exit → Act → World → Prop} (hgd : o.guard = none) (s x : Operand) (t : TypeId)
    (ho : o.op = .call { callee := .builtin .append, args := #[s, x], argTypes := #[t, t] })
    (e : TypeId) (z : Value) (size bytes : Nat) (ht : P.underlying t = some (.slice e)) (hinfo : (P.info? e).map (fun i => (i.zero, i.size, i.bytes)) = some (some z, size, bytes)) (hzs : z.cells.size = size) (hsz : 0 < size)
    (v : Value) (n : Nat) (xs : List Value) (hs : a.eval s = v) (hown : Row w e size v n xs) (ad : Addr) (m c : Nat) (news : List Value) (hx : a.eval x = .slice (some ad) m c) (hl : news.length = m * size) (hnews : ∀ j u, news[j]? = some u → w.cell? (ad.add j) = some u) (h1 : ∀ u ∈ news, u.oneCell' = true)
    (h63 : n + m ≤ maxLen) (hbytes : (n + m) * bytes ≤ 140737488355328)
    (h : ∀ v' w', AppPost w e size v (n + m) (xs ++ news) v' w' → wpList P ops Q rest (a.put o.dst v') w') : wpList P ops Q (o :: rest) a w := by
  obtain ⟨i0, hi, hz0, hz1, hz2⟩ := info_parts hinfo
  obtain ⟨v', w', hr, h2, h3, _, h5⟩ := run_append_own_at (P := P) w 0 t o.type e i0 z size bytes ht hi hz0 hz1 hz2 hzs hsz v n xs hown ad m c news hl hnews h1 h63 hbytes (Nat.zero_le _)
  refine wpList_plain hgd fun _ hK => ?_
  unfold Oper.wp execOp
  simp only [ho, resolve, invoke, builtin, Sem.run_bind, Sem.run_pure, Result.andThen_ok, List.map_toArray, List.map_cons, List.map_nil, hs, hx, hr]
  exact hK _ _ (h v' w' ⟨h2, Chg.of_grown h3 (fun k hk => hk), h5⟩)

theorem clone_nil (w : World) : Calls Try.prog 35 #[.slice none 0 0] w fun e w' => e = .returned (.slice none 0 0) ∧ w = w' := by
  have hb := fun W => Lib.run_eql_slice_nil (P := Try.prog) W 32 3 none 0 0 0 0 Try.underlying32
  go_enter Try.func35, Try.ntmps35
  go_wp2
  go_ret
  exact ⟨rfl, rfl⟩
def ClonePost (w : World) (xs : List Int) (u : Value) (w' : World) : Prop := Row w' 3 1 u xs.length (xs.map iv) ∧ (∀ k, u.ownBlock = some k → w.heap.size ≤ k) ∧ Below w.heap.size w w'
set_option maxHeartbeats 400000 in
theorem clone_some {w : World} {ad : Addr} {cap : Nat} {xs : List Int} (h : ∀ j u, (xs.map iv)[j]? = some u → w.cell? (ad.add j) = some u) (hs : xs.length ≤ 1099511627776) :
    Calls Try.prog 35 #[.slice (some ad) xs.length cap] w fun e w' => ∃ u, e = .returned u ∧ ClonePost w xs u w' := by
  have hb := fun W => Lib.run_eql_slice_nil (P := Try.prog) W 32 3 (some ad) xs.length cap 0 0 Try.underlying32
  have HH := Lib.hid h
  clear h
  go_enter Try.func35, Try.ntmps35
  go_wp2_with (at_builtin; refine wpList_appA rfl _ _ _ rfl 3 (.int .i64 0) 1 8 Try.underlying32 infoI rfl (by decide) (.slice (some ⟨w.heap.size, 0, none⟩) 0 0) 0 [] rfl ?ho ad xs.length cap (xs.map iv) rfl ?hl ?hn ?hs ?c1 ?c2 ?_)
  case ho => exact ⟨by simp, .inr ⟨w.heap.size, 0, #[], rfl, Nat.zero_le _, heap_alloc_new w _, Nat.le_refl _, by simp, by simp, by simp⟩⟩
  case hl => simp
  case hn =>
    intro j u hu
    have := HH.out j u hu
    exact (Below.cell ((Below.refl _ w).alloc (Nat.le_refl _) _) (World.block_lt_of_cell? w _ this)).trans this
  case hs => intro u hu; simp at hu; obtain ⟨x, -, rfl⟩ := hu; rfl
  case c1 => unfold maxLen; omega
  case c2 => omega
  intro v' w' hp
  have HP := Lib.hid hp
  clear hp
  go_wp2
  go_ret
  refine ⟨v', rfl, ?_⟩
  obtain ⟨h1, h2, h3⟩ := HP.out
  refine ⟨by simpa using h1, fun k hk => ?_, ?_⟩
  · rcases h3 with e | e
    · rw [e] at hk; simp [Value.ownBlock] at hk; omega
    · rw [e] at hk; simp at hk; omega
  · exact ((Below.refl _ w).alloc (Nat.le_refl _) _).trans (h2.below (by simp) (fun i hi => by simp [Value.ownBlock] at hi; omega))
theorem slices_Clone {w : World} {v : Value} {xs : List Int} (h : Ints w v xs) (hs : xs.length ≤ 1099511627776) :
    Calls Try.prog 35 #[v] w fun e w' => ∃ u, e = .returned u ∧ ClonePost w xs u w' := by
  obtain ⟨a, cap, rfl, h0, h1, h2, hv⟩ := h
  rcases a with _ | ad
  · rcases hv with rfl | ⟨b, off, h, -⟩
    · obtain rfl := h0 rfl
      exact (clone_nil w).mono fun e w' ⟨he, hw⟩ => ⟨_, he, by subst hw; exact ⟨World.ownsRow_nil _ _ _ _, fun k hk => by simp [Value.ownBlock] at hk, Below.refl _ _⟩⟩
    · cases h
  · refine clone_some (fun j u hu => ?_) hs
    rcases hv with rfl | ⟨b, off, h, hc⟩
    · simp at hu
    · injection h with h; subst h
      have e : (⟨b, off, none⟩ : Addr).add j = ⟨b, off + j, none⟩ := by unfold Addr.add; split <;> simp_all
      simp only [List.getElem?_map, Option.map_eq_some_iff] at hu
      obtain ⟨x, hx, rfl⟩ := hu
      have hj := (List.getElem?_eq_some_iff.1 hx).1
      rw [e, hc j hj]
      simp [List.getD, hx, iv]
end Go.Proofs.Ytkofhilgehhopaa
