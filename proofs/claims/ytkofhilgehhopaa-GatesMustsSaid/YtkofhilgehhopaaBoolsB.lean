/-
  Slices of truths: copies, rows of the call's own.
-/
import Derived.Test.YtkofhilgehhopaaClB0
import Derived.Test.YtkofhilgehhopaaInts
namespace Go.Proofs.Ytkofhilgehhopaa
open Go.ChangeShapes Go.WideShapes Go.ChangeAt Go.RowKit
set_option linter.unusedVariables false
theorem infoB : (Try.prog.info? 4).map (fun i => (i.zero, i.size, i.bytes)) = some (some (.bool false), 1, 1) := by kernel_rfl
def bv (b : Bool) : Value := .bool b
theorem Row.bools {w : World} {v : Value} {ms : List Bool} (h : Row w 4 1 v ms.length (ms.map bv)) : Bools w v ms := by
  rcases h.form with ⟨rfl, h0, -⟩ | ⟨g, cap, rfl, h1, h2, -, hc⟩
  · obtain rfl := List.eq_nil_of_length_eq_zero h0
    exact ⟨none, 0, rfl, by simp, by simp, .inl rfl⟩
  · refine ⟨_, cap, rfl, h1, h2, .inr ⟨g, 0, rfl, fun j hj => ?_⟩⟩
    rw [Nat.zero_add, (hc j (by simpa using hj)).1]
    simp [List.getD, hj, bv]
def ClonePostB (w : World) (xs : List Bool) (u : Value) (w' : World) : Prop := Row w' 4 1 u xs.length (xs.map bv) ∧ (∀ k, u.ownBlock = some k → w.heap.size ≤ k) ∧ Below w.heap.size w w'
set_option maxHeartbeats 400000 in
theorem cloneB_some {w : World} {ad : Addr} {cap : Nat} {xs : List Bool} (h : ∀ j u, (xs.map bv)[j]? = some u → w.cell? (ad.add j) = some u) (hs : xs.length ≤ 1099511627776) :
    Calls Try.prog 54 #[.slice (some ad) xs.length cap] w fun e w' => ∃ u, e = .returned u ∧ ClonePostB w xs u w' := by
  have hb := fun W => Lib.run_eql_slice_nil (P := Try.prog) W 38 4 (some ad) xs.length cap 0 0 Try.underlying38
  have HH := Lib.hid h
  clear h
  go_enter Try.func54, Try.ntmps54
  go_wp2_with (at_builtin; refine wpList_appA rfl _ _ _ rfl 4 (.bool false) 1 1 Try.underlying38 infoB rfl (by decide) (.slice (some ⟨w.heap.size, 0, none⟩) 0 0) 0 [] rfl ?ho ad xs.length cap (xs.map bv) rfl ?hl ?hn ?hs ?c1 ?c2 ?_)
  case ho => exact ⟨by simp, .inr ⟨w.heap.size, 0, #[], rfl, Nat.zero_le _, heap_alloc_new w _, Nat.le_refl _, by simp, by simp, by simp⟩⟩
  case hl => simp
  case hn =>
    intro j u hu
    have := HH.out j u hu
    exact (Below.cell ((Below.refl _ w).alloc (Nat.le_refl _) _) (World.block_lt_of_cell? w _ this)).trans this
  case hs => intro u hu; obtain ⟨x, -, rfl⟩ := List.mem_map.1 hu; rfl
  case c1 => unfold maxLen; omega
  case c2 => omega
  intro v' w' hp
  have HP := Lib.hid hp
  clear hp
  go_wp2
  go_ret
  refine ⟨v', rfl, ?_⟩
  obtain ⟨h1, h2, h3⟩ := HP.out
  refine ⟨by simpa using h1, fun k hk => ?_, ?_⟩
  · rcases h3 with e | e
    · rw [e] at hk; simp [Value.ownBlock] at hk; omega
    · rw [e] at hk; simp at hk; omega
  · exact ((Below.refl _ w).alloc (Nat.le_refl _) _).trans (h2.below (by simp) (fun i hi => by simp [Value.ownBlock] at hi; omega))
theorem cloneB {w : World} {v : Value} {xs : List Bool} (h : Bools w v xs) (hne : xs ≠ []) (hs : xs.length ≤ 1099511627776) :
    Calls Try.prog 54 #[v] w fun e w' => ∃ u, e = .returned u ∧ ClonePostB w xs u w' := by
  obtain ⟨a, cap, rfl, h1, h2, hv⟩ := h
  obtain ⟨b, off, rfl, hc⟩ := hv.resolve_left hne
  refine cloneB_some (fun j u hu => ?_) hs
  have hj : j < xs.length := by
    rcases Nat.lt_or_ge j xs.length with h | h
    · exact h
    · rw [List.getElem?_eq_none (by simpa using h)] at hu; cases hu
  have e : (⟨b, off, none⟩ : Addr).add j = ⟨b, off + j, none⟩ := by unfold Addr.add; split <;> simp_all
  rw [e, hc j hj]
  simp [hj, bv, List.getD] at hu ⊢
  exact hu
/-- A row of truths of the call's own. -/
def OwnT (w wr : World) (out : Value) (xs : List Bool) : Prop := Row wr 4 1 out xs.length (xs.map bv) ∧ Below w.heap.size w wr ∧ ∀ g, out.ownBlock = some g → w.heap.size ≤ g
theorem OwnT.app {w wr w' : World} {v v' : Value} {xs : List Bool} {b : Bool} (h : OwnT w wr v xs) (hp : AppPost (wr.alloc (.cells #[.bool b] 4)) 4 1 v (xs.length + 1) (xs.map bv ++ [.bool b]) v' w') : OwnT w w' v' (xs ++ [b]) := by
  obtain ⟨p1, p2, p3⟩ := hp
  have hz := h.2.1.size
  refine ⟨by rw [List.length_append, List.map_append]; exact p1, (h.2.1.alloc hz _).trans (p2.below (by simp; omega) (fun i hi => h.2.2 i hi)), fun g hg => ?_⟩
  rcases p3 with e | e
  · rw [e] at hg; exact h.2.2 g hg
  · rw [e] at hg; simp at hg; omega
end Go.Proofs.Ytkofhilgehhopaa
