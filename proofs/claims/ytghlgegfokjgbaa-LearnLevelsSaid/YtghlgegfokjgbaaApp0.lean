/-
  OVER ANY PROGRAM: 'append(s, make([]T, n)...)', elements of one cell, s a row of the call's own.
-/
import Derived.Test.YtghlgegfokjgbaaFoot
import Derived.IntWalk
namespace Go.Proofs.Ytghlgegfokjgbaa
open Go Go.RowKit
set_option linter.unusedVariables false
section
variable {P : Program} {w : World}
theorem zeroCells1 (z : Value) (m : Nat) (h1 : z.cells = #[z]) : Builtin.zeroCells z.cells m = (List.replicate m z).toArray := by
  unfold Builtin.zeroCells
  rw [h1]
  apply Array.ext
  · simp
  · intro i h1 h2
    simp [Nat.mod_one]
theorem wrap_nat (m : Nat) (hm : m ≤ 140737488355328) : IntKind.i64.wrap (m : Int) = (m : Int) := by
  exact IntWalk.i64_in _ (by omega)
theorem run_app0 (t ty e tI : TypeId) (k : IntKind) (z : Value) (bytes : Nat) (ht : P.underlying t = some (.slice e)) (hI : P.underlying tI = some (.int k)) (hinfo : (P.info? e).map (fun i => (i.zero, i.size, i.bytes)) = some (some z, 1, bytes)) (hz1 : z.cells = #[z]) (ho : z.oneCell' = true)
    (v : Value) (n : Nat) (xs : List Value) (hown : Row w e 1 v n xs) (kk : IntKind) (m : Nat) (hm : 0 < m)
    (h63 : n + m ≤ maxLen) (hbytes : (n + m) * bytes ≤ 140737488355328) (hb0 : 1 ≤ bytes) :
    ∃ v' w', (Builtin.append_ #[t, tI] ty #[v, .int kk m]).run P w = .ok v' w' ∧ AppPost w e 1 v (n + m) (xs ++ List.replicate m z) v' w' := by
  obtain ⟨i, hi, hz, hs, hby⟩ := info_parts hinfo
  have hnm : n + m ≤ 140737488355328 := Nat.le_trans (Nat.le_mul_of_pos_right _ hb0) hbytes
  have hw := wrap_nat m (by omega)
  have hzc := fun q => zeroCells1 z q hz1
  have hmb : ¬ (281474976710656 < (m : Int) * (i.bytes : Int)) := by
    have h1 : m * bytes ≤ (n + m) * bytes := Nat.mul_le_mul_right _ (by omega)
    rw [hby]
    have : ((m * bytes : Nat) : Int) ≤ 140737488355328 := by omega
    rw [Int.natCast_mul] at this
    omega
  have h0 : ¬ ((m : Int) < 0) := by omega
  have hm0 : m ≠ 0 := by omega
  have hlen : (xs ++ List.replicate m z).length = (n + m) * 1 := by rw [List.length_append, hown.1, List.length_replicate]; omega
  have grown : ∀ (old : Nat), old < n + m →
      AppPost w e 1 v (n + m) (xs ++ List.replicate m z) (.slice (some ⟨w.heap.size, 0, none⟩) (n + m) (grownCap w (n + m) old e)) (w.drew.alloc (.cells (xs.toArray ++ (List.replicate m z).toArray ++ Builtin.zeroCells z.cells (grownCap w (n + m) old e - (n + m))) e)) := by
    intro old ho
    have hge := grownCap_ge w (n + m) old e
    have hcm : grownCap w (n + m) old e ≤ maxLen := grownCap_le_maxLen w (n + m) old e h63
    refine ⟨⟨hlen, .inr ⟨w.heap.size, _, _, rfl, Nat.zero_le _, heap_alloc_new w.drew _, hge, hcm, ?_, ?_⟩⟩, (Chg.refl _ w).drew.alloc _, .inr rfl⟩
    · rw [hzc]
      have := hown.1
      simp
      omega
    · rw [hzc]
      simp only [Array.toList_append, List.append_assoc]
      rw [← List.append_assoc, ← hlen]
      exact List.take_left
  rcases hown.2 with ⟨rfl, rfl⟩ | ⟨g, cap, cur, rfl, hbg, hg, hnc, hcm, hcs, htake⟩
  · have hx : xs = [] := List.eq_nil_of_length_eq_zero (by simpa using hown.1)
    subst hx
    have hgr := grown 0 (by omega)
    simp only [Nat.zero_add, List.nil_append, Array.empty_append] at hgr ⊢
    have h48' : ¬ (281474976710656 < Builtin.nextslicecap m 0 * i.bytes) := by
      rw [nextslicecap_zero hm, hby]; simp only [Nat.zero_add] at hbytes; omega
    have h63' : ¬ (9223372036854775807 < (m : Int)) := by omega
    refine ⟨_, _, ?_, hgr⟩
    simp [Builtin.append_, run_underlying ht, run_underlying hI, sizeOf, typeInfo, zeroValue, hi, hz, hs, asInt, asIntOf, hw, h0, hmb, hm0, h48', h63', Question.forced, run_firstCells_none, newRow, grownCap, hzc]
  · by_cases hroom : n + m ≤ cap
    · have hfit : n * 1 + (List.replicate m z).length ≤ cur.size := by rw [List.length_replicate, hcs]; omega
      have hst := run_storeCells_at P g (n * 1) e (List.replicate m z) 0 cur w hg (by simpa using hfit) (fun u hu => by rw [List.eq_of_mem_replicate hu]; exact ho)
      simp only [Nat.add_zero] at hst
      refine ⟨.slice (some ⟨g, 0, none⟩) (n + m) cap, w.setRow g (cur.toList.take (n * 1) ++ List.replicate m z ++ cur.toList.drop (n * 1 + (List.replicate m z).length)).toArray, ?_, ⟨hlen, .inr ⟨g, cap, _, rfl, Nat.zero_le _, setRow_heap w g cur _ e _ hg, hroom, hcm, ?_, ?_⟩⟩,
        Chg.of_grown (r := some g) ⟨rfl, rfl, rfl, by simp, fun k hk hne => setRow_other w g k _ (fun e => hne (by rw [e]))⟩ (fun k hk => by injection hk with hk; subst hk; rfl), .inl rfl⟩
      · have hst' := hst
        simp [Builtin.append_, run_underlying ht, run_underlying hI, sizeOf, typeInfo, zeroValue, hi, hz, hs, asInt, asIntOf, hw, h0, hmb, hm0, hroom, hzc, Addr.add_lit] at hst' ⊢
        simp [hst']
      · simp only [List.size_toArray, List.length_append, List.length_take, List.length_drop, Array.length_toList, List.length_replicate]
        omega
      · rw [htake, ← hlen]
        exact List.take_left
    · have holds : ∀ j u, xs[j]? = some u → w.drew.cell? ((⟨g, 0, none⟩ : Addr).add j) = some u := by
        have := World.ownsRow.cells hown (g := g) rfl
        simpa using this
      have hfo := run_firstCells_some (P := P) w.drew 1 n ⟨g, 0, none⟩ n cap xs hown.1 holds
      have hn : ¬ (n + m ≤ cap) := hroom
      have h63' : ¬ (9223372036854775807 < ((n : Int) + (m : Int))) := by omega
      have h48' : ¬ (281474976710656 < Builtin.nextslicecap (n + m) cap * i.bytes) := by
        have := growslice_fits (need := n + m) (old := cap) (bytes := bytes) (by omega) hbytes
        rw [hby]; omega
      have hgr := grown cap (by omega)
      refine ⟨_, _, ?_, hgr⟩
      simp [Builtin.append_, run_underlying ht, run_underlying hI, sizeOf, typeInfo, zeroValue, hi, hz, hs, asInt, asIntOf, hw, h0, hmb, hm0, hn, h48', h63', Question.forced, hfo, newRow, grownCap, hzc]
theorem wpList_app0 {ops : Array Oper} {rest : List Oper} {o : Oper} {a : Act} {Q : Exit → Act → World → Prop} (hgd : o.guard = none) (s x : Operand) (t tI : TypeId)
    (ho : o.op = .call { callee := .builtin .append, args := #[s, x], argTypes := #[t, tI] })
    (e : TypeId) (k : IntKind) (z : Value) (bytes : Nat) (ht : P.underlying t = some (.slice e)) (hI : P.underlying tI = some (.int k)) (hinfo : (P.info? e).map (fun i => (i.zero, i.size, i.bytes)) = some (some z, 1, bytes)) (hz1 : z.cells = #[z]) (ho1 : z.oneCell' = true)
    (v : Value) (n : Nat) (xs : List Value) (hs : a.eval s = v) (hown : Row w e 1 v n xs) (kk : IntKind) (m : Nat) (hx : a.eval x = .int kk m) (hm : 0 < m)
    (h63 : n + m ≤ maxLen) (hbytes : (n + m) * bytes ≤ 140737488355328) (hb0 : 1 ≤ bytes)
    (h : ∀ v' w', AppPost w e 1 v (n + m) (xs ++ List.replicate m z) v' w' → wpList P ops Q rest (a.put o.dst v') w') : wpList P ops Q (o :: rest) a w := by
  obtain ⟨v', w', hrun, hp⟩ := run_app0 (P := P) t o.type e tI k z bytes ht hI hinfo hz1 ho1 v n xs hown kk m hm h63 hbytes hb0
  refine wpList_plain hgd fun _ hK => ?_
  unfold Oper.wp execOp
  simp only [ho, resolve, invoke, builtin, Sem.run_bind, Sem.run_pure, Result.andThen_ok, List.map_toArray, List.map_cons, List.map_nil, hs, hx, hrun]
  exact hK _ _ (h v' w' hp)
end
end Go.Proofs.Ytghlgegfokjgbaa
