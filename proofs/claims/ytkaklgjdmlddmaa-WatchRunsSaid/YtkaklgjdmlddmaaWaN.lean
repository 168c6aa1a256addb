/-
  Package watch: what a Run's rounds keep, as a plain law; the step that says what was gone through.
-/
import Derived.Test.YtkaklgjdmlddmaaWaM
import Derived.Deep.LoopGhost
namespace Go.Proofs.Ytkaklgjdmlddmaa
open Go.ChangeShapes Go.WideShapes Go.ChangeAt Go.RowKit
set_option linter.unusedVariables false
set_option linter.unusedSimpArgs false
def wrongOf (S : WS) : Int := -(S.t.l.getD S.dn.length 0)
def slotOf (S : WS) : Nat := slotN (wrongOf S)
def pushDn (S : WS) : WS := { S with dn := S.dn ++ [S.t.wh.getD S.dn.length 0] }
/-- Numbers that a Run wants. -/
structure RunB (S : WS) : Prop where
  sg : Signs S.t
  tb : TB S.t
  wl : S.t.wh.length = S.t.l.length
  dl : S.dn.length ≤ S.t.l.length
  lt : Lits3 S.t.l
  lb : LB 1000 S.ls
/-- A plain law of Run: Q between two literals, R between two clauses (those that keep watching, those to come), E at the end. -/
structure RunLaw (Q : WS → Prop) (R : WS → List Int → List Int → Prop) (E : Int → Bool → WS → Prop) : Prop where
  qb : ∀ S, Q S → RunB S
  skip : ∀ S, Q S → S.dn.length < S.t.l.length → S.ls.length ≤ slotOf S → Q (pushDn S)
  start : ∀ S, Q S → S.dn.length < S.t.l.length → slotOf S < S.ls.length → R S [] (S.ls.getD (slotOf S) [])
  rb : ∀ S keep rest, R S keep rest → RunB S ∧ S.dn.length < S.t.l.length ∧ slotOf S < S.ls.length ∧ keep.length + rest.length ≤ 1000
  vis : ∀ S keep id rest, R S keep (id :: rest) → ∃ k : Nat, id = (k : Int) ∧ VisOk S k (wrongOf S)
  step : ∀ S keep (k : Nat) rest, R S keep ((k : Int) :: rest) → (visitF S k (wrongOf S)).2.2 = true → R (visitF S k (wrongOf S)).1 (if (visitF S k (wrongOf S)).2.1 then keep ++ [(k : Int)] else keep) rest
  confl : ∀ S keep (k : Nat) rest, R S keep ((k : Int) :: rest) → (visitF S k (wrongOf S)).2.2 = false → E k false { (visitF S k (wrongOf S)).1 with ls := (visitF S k (wrongOf S)).1.ls.set (slotOf S) ((if (visitF S k (wrongOf S)).2.1 then keep ++ [(k : Int)] else keep) ++ rest) }
  finish : ∀ S keep, R S keep [] → Q (pushDn { S with ls := S.ls.set (slotOf S) keep })
  done : ∀ S, Q S → S.t.l.length ≤ S.dn.length → E (-1) true S
theorem visitF_dn (S : WS) (k : Nat) (wrong : Int) : (visitF S k wrong).1.dn = S.dn := by
  unfold visitF
  split
  · rfl
  · split
    · rfl
    · split
      · rfl
      · split <;> rfl
theorem impT_l (t : TS) (l r : Int) : ∃ m, (impT t l r).l = t.l ++ m := by
  unfold impT
  split
  · exact ⟨[l], rfl⟩
  · exact ⟨[], by simp⟩
theorem visitF_l (S : WS) (k : Nat) (wrong : Int) : ∃ m, (visitF S k wrong).1.t.l = S.t.l ++ m := by
  unfold visitF
  split
  · exact ⟨[], by simp⟩
  · split
    · exact ⟨[], by simp⟩
    · split
      · exact ⟨[], by simp⟩
      · split
        · exact ⟨[], by simp⟩
        · exact impT_l _ _ _
theorem visitF_wrong (S : WS) (k : Nat) (wrong : Int) (h : S.dn.length < S.t.l.length) : wrongOf (visitF S k wrong).1 = wrongOf S := by
  obtain ⟨m, hm⟩ := visitF_l S k wrong
  unfold wrongOf
  rw [visitF_dn, hm]
  congr 1
  simp only [List.getD]
  rw [List.getElem?_append_left h]
theorem putL_ne (ls : List (List Int)) (s s' : Nat) (id : Int) (h : s ≠ s') (hs : s' < ls.length) : (putL ls s id).getD s' [] = ls.getD s' [] := by
  unfold putL
  rw [getD_set_ne _ _ _ _ _ h]
  unfold padL
  simp only [List.getD]
  rw [List.getElem?_append_left hs]
theorem fk_spec {t : TS} {c : List Int} {k : Nat} (h : fk t c = some k) : 2 ≤ k ∧ k < c.length ∧ 0 ≤ t.value (c.getD k 0) := by
  unfold fk at h
  have h1 := List.find?_some h
  have h2 := List.mem_of_find?_eq_some h
  rw [List.mem_range'_1] at h2
  have h1 : decide (0 ≤ t.value (c.getD k 0)) = true := h1
  exact ⟨h2.1, by omega, of_decide_eq_true h1⟩
theorem visC_len (c : List Int) (w : Int) : (visC c w).length = c.length := by unfold visC; split <;> simp [sw_len]
theorem visitF_ls {S : WS} {k : Nat} {wrong : Int} (h : VisOk S k wrong) (hw : lit3 wrong) (hs : slotN wrong < S.ls.length) : (visitF S k wrong).1.ls.getD (slotN wrong) [] = S.ls.getD (slotN wrong) [] ∧ S.ls.length ≤ (visitF S k wrong).1.ls.length := by
  unfold visitF
  split
  · exact ⟨rfl, Nat.le_refl _⟩
  · split
    · exact ⟨rfl, Nat.le_refl _⟩
    · split
      · rename_i j hj
        obtain ⟨j1, j2, j3⟩ := fk_spec hj
        rw [visC_len] at j2
        refine ⟨putL_ne _ _ _ _ (fun e => ?_) hs, ?_⟩
        · have hl : lit3 ((visC (S.cl.getD k []) wrong).getD j 0) := by
            unfold visC
            split
            · exact (h.lits.sw 0 1).at_ j
            · exact h.lits.at_ j
          have := slotN_inj hl hw e
          rcases h.ne j j2 with h1 | h1
          · exact h1 this
          · omega
        · show _ ≤ (putL _ _ _).length
          unfold putL
          rw [List.length_set, padL_len]
          omega
      · split
        · exact ⟨rfl, Nat.le_refl _⟩
        · exact ⟨rfl, Nat.le_refl _⟩
set_option maxRecDepth 100000 in
theorem Run_broken {B : Nat} {w : World} {r : Nat → Nat} {wb t : Nat} {S : WS} (h : WAt B w r wb t S) (hb : 0 ≤ S.bk) :
    Calls Try.prog 12 #[.pointer (some ⟨wb, 0, none⟩)] w fun e w' => e = .returned (.tuple #[.int .i64 S.bk, .bool false]) ∧ w = w' := by
  obtain ⟨vl, vs, vd, us, xs, h⟩ := h
  have c4 := h.cells.c4
  clear h
  go_enter Try.func12, Try.ntmps12
  go_wp2
  go_ret2
  exact ⟨rfl, rfl⟩
set_option maxRecDepth 100000 in
theorem Run_nil (w : World) : Calls Try.prog 12 #[.pointer none] w fun e w' => e = .returned (.tuple #[.int .i64 (-1), .bool false]) ∧ w = w' := by
  go_enter Try.func12, Try.ntmps12
  go_wp2
  go_ret2
  exact ⟨rfl, rfl⟩
end Go.Proofs.Ytkaklgjdmlddmaa
