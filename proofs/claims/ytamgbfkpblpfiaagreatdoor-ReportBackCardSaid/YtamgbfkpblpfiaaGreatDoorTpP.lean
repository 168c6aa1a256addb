/-
  Memories that a call makes: a block of slices, each a list of cells of the call's own.
-/
import Derived.Test.YtamgbfkpblpfiaaGreatDoorTpF
import Derived.Test.YtamgbfkpblpfiaaGreatDoorFoot
import Derived.Test.YtamgbfkpblpfiaaGreatDoorSeqG
import Derived.Test.YtamgbfkpblpfiaaGreatDoorTpA
import Derived.Sort.Row
namespace Go.Proofs.YtamgbfkpblpfiaaGreatDoor
open Go.ChangeShapes Go.WideShapes Go.ChangeAt Go.RowKit
set_option linter.unusedVariables false
set_option linter.unusedSimpArgs false
def celC (c : Int × Int) : List Value := [.int .u64 c.1, .int .u64 c.2]
structure MemsM (w0 w : World) (bm : Nat) (us : List Value) (ms : List CS) : Prop where
  blk : Blk w bm 119 us.toArray
  len : us.length = ms.length
  row : ∀ i, i < ms.length → Row w 121 2 (us.getD i undef) (ms.getD i []).length ((ms.getD i []).flatMap celC)
  own : ∀ i g, i < ms.length → (us.getD i undef).ownBlock = some g → w0.heap.size ≤ g ∧ g ≠ bm
  ne : ∀ i j g, i < ms.length → j < ms.length → i ≠ j → (us.getD i undef).ownBlock = some g → (us.getD j undef).ownBlock ≠ some g
section
variable {w0 w w' : World} {bm : Nat} {us : List Value} {ms : List CS}
theorem MemsM.chg {S : Nat → Prop} (h : MemsM w0 w bm us ms) (hc : Chg S w w') (hS : ∀ k, S k → k < w0.heap.size) (hb : w0.heap.size ≤ bm) : MemsM w0 w' bm us ms :=
  ⟨h.blk.chg hc (fun hk => by have := hS _ hk; omega), h.len, fun i hi => (h.row i hi).chg hc (fun g hg hk => by have := hS _ hk; have := (h.own i g hi hg).1; omega), h.own, h.ne⟩
theorem MemsM.below (h : MemsM w0 w bm us ms) (hb : Below w.heap.size w w') : MemsM w0 w' bm us ms :=
  ⟨h.blk.chg (S := fun _ => False) (Chg.of_below hb) (fun h => h), h.len, fun i hi => (h.row i hi).chg (S := fun _ => False) (Chg.of_below hb) (fun _ _ h => h), h.own, h.ne⟩
theorem MemsM.cell (h : MemsM w0 w bm us ms) {i : Nat} (hi : i < ms.length) : w.cell? ⟨bm, i, none⟩ = some (us.getD i undef) := by
  rw [h.blk.cell i, List.getElem?_toArray, List.getElem?_eq_getElem (by rw [h.len]; exact hi), List.getD_eq_getElem?_getD, List.getElem?_eq_getElem (by rw [h.len]; exact hi)]
  rfl
theorem getD_setG {α : Type} (l : List α) (d : α) (i j : Nat) (x : α) (hi : i < l.length) : (l.set i x).getD j d = if i = j then x else l.getD j d := by
  rw [List.getD_eq_getElem?_getD, List.getD_eq_getElem?_getD, List.getElem?_set]
  by_cases h : i = j
  · subst h; simp [hi]
  · simp [h]
/-- A cell more in a memory. -/
theorem MemsM.app (h : MemsM w0 w bm us ms) {i : Nat} (hi : i < ms.length) (c : Int × Int) {v' : Value} (hw : w0.heap.size ≤ w.heap.size) (hbm : bm < w.heap.size)
    (hp : AppPost w 121 2 (us.getD i undef) ((ms.getD i []).length + 1) ((ms.getD i []).flatMap celC ++ celC c) v' w') :
    MemsM w0 (w'.setCell ⟨bm, i, none⟩ v') bm (us.set i v') (ms.set i (ms.getD i [] ++ [c])) := by
  obtain ⟨p1, p2, p3⟩ := hp
  have hul : i < us.length := by rw [h.len]; exact hi
  have hov : ∀ g, v'.ownBlock = some g → (us.getD i undef).ownBlock = some g ∨ g = w.heap.size := fun g hg => by
    rcases p3 with e | e
    · rw [e] at hg; exact .inl hg
    · rw [e] at hg; injection hg with hg; exact .inr hg.symm
  have hgo : ∀ g, v'.ownBlock = some g → w0.heap.size ≤ g ∧ g ≠ bm := fun g hg => by
    rcases hov g hg with e | e
    · exact h.own i g hi e
    · subst e; exact ⟨hw, by omega⟩
  have hc2 : Chg (fun k => k = bm) w' (w'.setCell ⟨bm, i, none⟩ v') := (Chg.refl (fun k => k = bm) w').setCell (p := ⟨bm, i, none⟩) (.inl rfl) _
  refine ⟨?_, by rw [List.length_set, List.length_set]; exact h.len, fun j hj => ?_, fun j g hj hg => ?_, fun j k g hj hk hjk hg hg' => ?_⟩
  · have hb := (h.blk.chg p2 (fun e => (h.own i bm hi e).2 rfl)).set_ i v'
    rw [List.setIfInBounds_toArray] at hb
    exact hb
  · rw [List.length_set] at hj
    rw [getD_setG _ _ _ _ _ hul, getD_setG _ _ _ _ _ hi]
    by_cases e : i = j
    · rw [if_pos e, if_pos e, List.length_append, List.flatMap_append]
      have : Row w' 121 2 v' ((ms.getD i []).length + [c].length) ((ms.getD i []).flatMap celC ++ [c].flatMap celC) := by simpa using p1
      exact this.chg hc2 (fun g hg e => (hgo g hg).2 e)
    · rw [if_neg e, if_neg e]
      exact ((h.row j hj).chg p2 (fun g hg e2 => h.ne i j g hi hj e e2 hg)).chg hc2 (fun g hg e2 => (h.own j g hj hg).2 e2)
  · rw [List.length_set] at hj
    rw [getD_setG _ _ _ _ _ hul] at hg
    by_cases e : i = j
    · rw [if_pos e] at hg; exact hgo g hg
    · rw [if_neg e] at hg; exact h.own j g hj hg
  · rw [List.length_set] at hj hk
    rw [getD_setG _ _ _ _ _ hul] at hg hg'
    have hlt : ∀ j g, j < ms.length → (us.getD j undef).ownBlock = some g → g < w.heap.size := fun j g hj hg => (h.row j hj).lt g hg
    by_cases e : i = j
    · rw [if_pos e] at hg
      rw [if_neg (fun e2 => hjk (e.symm.trans e2))] at hg'
      rcases hov g hg with e3 | e3
      · exact h.ne i k g hi hk (fun e2 => hjk (e.symm.trans e2)) e3 hg'
      · have := hlt k g hk hg'; omega
    · rw [if_neg e] at hg
      by_cases e2 : i = k
      · rw [if_pos e2] at hg'
        rcases hov g hg' with e3 | e3
        · exact h.ne i j g hi hj e e3 hg
        · have := hlt j g hj hg; omega
      · rw [if_neg e2] at hg'
        exact h.ne j k g hj hk hjk hg hg'
end
theorem flat2_len (cs : CS) : (cs.flatMap celC).length = cs.length * 2 := by
  induction cs with
  | nil => rfl
  | cons c cs ih => rw [List.flatMap_cons, List.length_append, ih, List.length_cons]; simp [celC]; omega
theorem flat2 (cs : CS) (k c : Nat) (hk : k < cs.length) (hc : c < 2) : (cs.flatMap celC).getD (k * 2 + c) undef = (celC (cs.getD k (0, 0))).getD c undef := by
  induction cs generalizing k with
  | nil => exact absurd hk (by simp)
  | cons x cs ih =>
    rw [List.flatMap_cons]
    cases k with
    | zero => simp [celC, List.getD]; match c, hc with | 0, _ => rfl | 1, _ => rfl
    | succ k =>
      have := ih k (by simpa using hk)
      have e : (k + 1) * 2 + c = (k * 2 + c) + 2 := by omega
      rw [e]
      simp [celC, List.getD] at this ⊢
      exact this
theorem Row.pairs {w : World} {v : Value} {cs : CS} (h : Row w 121 2 v cs.length (cs.flatMap celC)) (hw : ∀ p ∈ cs, wf p.1 ∧ wf p.2) : Pairs w v cs := by
  rcases h.form with ⟨rfl, h0, -⟩ | ⟨g, cap, rfl, h1, h2, h3, hc⟩
  · obtain rfl := List.eq_nil_of_length_eq_zero h0
    exact ⟨none, 0, rfl, Nat.le_refl _, by simp, by simp, .inl rfl⟩
  · have hl := flat2_len cs
    refine ⟨_, cap, rfl, h1, h2, hw, .inr ⟨g, 0, rfl, h3, fun j hj => ?_⟩⟩
    have a0 := (hc (j * 2) (by omega)).1
    have a1 := (hc (j * 2 + 1) (by omega)).1
    rw [show j * 2 = j * 2 + 0 by omega, flat2 cs j 0 hj (by omega)] at a0
    rw [flat2 cs j 1 hj (by omega)] at a1
    exact ⟨by rw [Nat.zero_add]; exact a0, by rw [Nat.zero_add]; exact a1⟩
/-- Such memories read as lists of cells. -/
theorem MemsM.ces {w0 w : World} {bm : Nat} {us : List Value} {ms : List CS} (h : MemsM w0 w bm us ms) (hw : ∀ m ∈ ms, ∀ p ∈ m, wf p.1 ∧ wf p.2) (hl : ms.length ≤ maxLen) : Ces w (.slice (some ⟨bm, 0, none⟩) ms.length ms.length) ms :=
  ⟨_, _, rfl, Nat.le_refl _, hl, .inr ⟨bm, 0, rfl, fun j hj => ⟨us.getD j undef, by rw [Nat.zero_add, Nat.mul_one]; exact h.cell hj, (h.row j hj).pairs (by
    rw [List.getD_eq_getElem?_getD, List.getElem?_eq_getElem hj]
    exact hw _ (List.getElem_mem hj))⟩⟩⟩
end Go.Proofs.YtamgbfkpblpfiaaGreatDoor
/-
  What is told of a reader's error, walked.
-/
namespace Go.Proofs.YtamgbfkpblpfiaaGreatDoor
open Go.ChangeShapes Go.WideShapes Go.ChangeAt Go.RowKit
set_option linter.unusedVariables false
set_option linter.unusedSimpArgs false
theorem Is_B {w : World} {v : Value} {n : Nat} (h : Bad w 2 n v) : Calls Tryz.prog 85 #[v, .int .i64 2] w fun e w' => e = .returned (.bool true) ∧ w = w' := by
  obtain ⟨ch, hc, -, -⟩ := id h
  have HI := Lib.hid (Is_C (o := 2) hc)
  obtain ⟨x, rfl⟩ := h.iface
  clear h hc
  go_enter Tryz.func85, Tryz.ntmps85
  go_wp2_with fail
  refine HI.out.mono ?_
  rintro e w1 ⟨rfl, rfl⟩
  go_wp2
  go_ret
  exact ⟨rfl, rfl⟩
theorem Is_nil (w : World) : Calls Tryz.prog 85 #[.nilIface, .int .i64 2] w fun e w' => e = .returned (.bool false) ∧ w = w' := by
  go_enter Tryz.func85, Tryz.ntmps85
  go_wp2
  go_ret
  exact ⟨rfl, rfl⟩
theorem Told_B {w : World} {v : Value} {n : Nat} (hL : Laid w) (h : Bad w 2 n v) : Calls Tryz.prog 21 #[v] w fun e w' => e = .returned (.tuple #[.int .i64 2, .int .i64 (n : Int)]) ∧ Below w.heap.size w w' := by
  obtain ⟨ch, hc, h2, h3⟩ := h
  refine (Told_C hL hc).mono ?_
  rintro e w' ⟨rfl, hb⟩
  exact ⟨by rw [h3]; rfl, hb⟩
end Go.Proofs.YtamgbfkpblpfiaaGreatDoor
/-
  Witnesses' texts, plain: the parser's rounds.
-/
namespace Go.Proofs.YtamgbfkpblpfiaaGreatDoor
set_option linter.unusedVariables false
set_option linter.unusedSimpArgs false
def mostC : List Nat := [3, 18446744073709551615, 18446744073709551615]
theorem numsR_len {word : List UInt8} {most : List Nat} {rest r : List UInt8} {ns : List Nat} (h : numsR word most rest = some (ns, r)) : ns.length = most.length ∧ r.length < rest.length := by
  rw [numsR_eq] at h
  cases hc : cutT rest with
  | none => rw [hc] at h; simp at h
  | some q =>
    obtain ⟨line, r'⟩ := q
    rw [hc] at h
    simp only at h
    have hl := cutT_len hc
    cases hn : numsT word most line with
    | none => rw [hn] at h; simp at h
    | some l =>
      rw [hn] at h
      simp only at h
      injection h with h
      injection h with h1 h2
      subst h1 h2
      refine ⟨?_, by omega⟩
      unfold numsT at hn
      cases hw : wordsT line with
      | nil => rw [hw] at hn; simp at hn
      | cons w ws =>
        rw [hw] at hn
        simp only at hn
        split at hn
        · exact numsP_len hn
        · simp at hn
theorem numsR_le {word : List UInt8} {most : List Nat} {rest r : List UInt8} {ns : List Nat} (h : numsR word most rest = some (ns, r)) : (∀ n ∈ ns, n ≤ 18446744073709551615) ∧ ∀ i, ns.getD i 0 ≤ most.getD i 0 := by
  rw [numsR_eq] at h
  cases hc : cutT rest with
  | none => rw [hc] at h; simp at h
  | some q =>
    obtain ⟨line, r'⟩ := q
    rw [hc] at h
    simp only at h
    cases hn : numsT word most line with
    | none => rw [hn] at h; simp at h
    | some l =>
      rw [hn] at h
      simp only at h
      injection h with h
      injection h with h1 h2
      subst h1 h2
      exact (numsT_inv hn).2
theorem boolsR_len {word rest r : List UInt8} {l : List Bool} (h : boolsR word rest = some (l, r)) : r.length < rest.length := by
  rw [boolsR_eq] at h
  cases hc : cutT rest with
  | none => rw [hc] at h; simp at h
  | some q =>
    obtain ⟨line, r'⟩ := q
    rw [hc] at h
    simp only at h
    have hl := cutT_len hc
    cases hn : boolsT word line with
    | none => rw [hn] at h; simp at h
    | some l =>
      rw [hn] at h
      simp only at h
      injection h with h
      injection h with h1 h2
      subst h1 h2
      omega
theorem begins_nil (w : List UInt8) : beginsT (w ++ [32]) [] = false := by
  cases w <;> rfl
/-- The first numbers, then the truths. -/
theorem parseT_head (s : List UInt8) : parseT s = match numsR wTrace [4096, 4] s with
    | some (ns, r1) => (match boolsR wLat r1 with
      | some (v, r2) => if v.length = ns.getD 0 0 then celF v (ns.getD 1 0) r2.length (List.replicate (ns.getD 1 0) []) 0 true r2 3 else .bad 2
      | none => .bad 2)
    | none => .bad 1 := by
  cases hn : numsR wTrace [4096, 4] s with
  | none =>
    rw [numsR_eq] at hn
    unfold parseT
    cases hc : cutT s with
    | none => rfl
    | some q =>
      obtain ⟨line, r'⟩ := q
      rw [hc] at hn
      simp only at hn ⊢
      cases hm : numsT wTrace [4096, 4] line with
      | none => rfl
      | some l => rw [hm] at hn; simp at hn
  | some q =>
    obtain ⟨ns, r1⟩ := q
    have hl := (numsR_len hn).1
    rw [numsR_eq] at hn
    unfold parseT
    cases hc : cutT s with
    | none => rw [hc] at hn; simp at hn
    | some q =>
      obtain ⟨line, r'⟩ := q
      rw [hc] at hn
      simp only at hn ⊢
      cases hm : numsT wTrace [4096, 4] line with
      | none => rw [hm] at hn; simp at hn
      | some l =>
        rw [hm] at hn
        simp only at hn
        injection hn with hn
        injection hn with h1 h2
        subst h1 h2
        match l, hl with
        | [a, b], _ =>
          simp only [List.getD_cons_zero, List.getD_cons_succ]
          rw [boolsR_eq]
          cases cutT r' with
          | none => rfl
          | some q2 =>
            obtain ⟨l2, r2⟩ := q2
            simp only
            cases boolsT wLat l2 with
            | none => rfl
            | some v => rfl
theorem modify_set (ms : List CS) (i : Nat) (c : CS) : ms.modify i (· ++ c) = ms.set i (ms.getD i [] ++ c) := by
  apply List.ext_getElem?
  intro j
  rw [List.getElem?_modify, List.getElem?_set]
  by_cases h : i = j
  · subst h
    by_cases hi : i < ms.length
    · simp [hi, List.getD]
    · simp [hi, List.getElem?_eq_none (Nat.le_of_not_lt hi)]
  · simp [h]
theorem celF_step (lat : List Bool) (b : Nat) (mems : List CS) (last : Nat) (ord : Bool) (rest : List UInt8) (at_ : Nat) : celF lat b rest.length mems last ord rest at_ =
    if beginsT (wCell ++ [32]) (peekT rest) then (match numsR wCell mostC rest with
      | some (ns, r) => if ns.getD 0 0 < b then celF lat b r.length (mems.set (ns.getD 0 0) (mems.getD (ns.getD 0 0) [] ++ [(((ns.getD 1 0 : Nat) : Int), ((ns.getD 2 0 : Nat) : Int))])) (ns.getD 0 0) (ord && decide (last ≤ ns.getD 0 0)) r (at_ + 1) else .bad at_
      | none => .bad at_)
    else cycF lat mems ord rest.length [] rest at_ := by
  have key : ∀ f, rest.length ≤ f → celF lat b f mems last ord rest at_ = if beginsT (wCell ++ [32]) (peekT rest) then (match numsR wCell mostC rest with
      | some (ns, r) => if ns.getD 0 0 < b then celF lat b r.length (mems.set (ns.getD 0 0) (mems.getD (ns.getD 0 0) [] ++ [(((ns.getD 1 0 : Nat) : Int), ((ns.getD 2 0 : Nat) : Int))])) (ns.getD 0 0) (ord && decide (last ≤ ns.getD 0 0)) r (at_ + 1) else .bad at_
      | none => .bad at_)
    else cycF lat mems ord rest.length [] rest at_ := by
    intro f hf
    cases f with
    | zero =>
      obtain rfl := List.eq_nil_of_length_eq_zero (Nat.le_zero.1 hf)
      rfl
    | succ f =>
      rw [celF]
      unfold peekT
      rw [numsR_eq]
      cases hc : cutT rest with
      | none =>
        simp only
        rw [begins_nil]
        rfl
      | some q =>
        obtain ⟨line, r⟩ := q
        have hl := cutT_len hc
        simp only
        by_cases hb : beginsT (wCell ++ [32]) line = true
        · rw [if_pos hb, if_pos hb]
          have e : mostC = [3, 18446744073709551615, 18446744073709551615] := rfl
          rw [e]
          cases hm : numsT wCell [3, 18446744073709551615, 18446744073709551615] line with
          | none => rfl
          | some l =>
            have hll : l.length = 3 := by
              unfold numsT at hm
              cases hw : wordsT line with
              | nil => rw [hw] at hm; simp at hm
              | cons w ws =>
                rw [hw] at hm
                simp only at hm
                split at hm
                · exact numsP_len hm
                · simp at hm
            match l, hll with
            | [m, a, x], _ =>
              simp only [List.getD_cons_zero, List.getD_cons_succ]
              rw [modify_set]
              by_cases hmb : m < b
              · rw [if_pos hmb, if_pos hmb]
                exact celF_fuel (by omega) (Nat.le_refl _)
              · rw [if_neg hmb, if_neg hmb]
        · rw [if_neg hb, if_neg hb]
  exact key _ (Nat.le_refl _)
theorem cycF_step (lat : List Bool) (mems : List CS) (ord : Bool) (ins : List (List Bool)) (rest : List UInt8) (at_ : Nat) : cycF lat mems ord rest.length ins rest at_ =
    if beginsT (wCyc ++ [32]) (peekT rest) then (match boolsR wCyc rest with
      | some (l, r) => cycF lat mems ord r.length (ins ++ [l]) r (at_ + 1)
      | none => .bad at_)
    else finT lat mems ord ins rest at_ := by
  have key : ∀ f, rest.length ≤ f → cycF lat mems ord f ins rest at_ = if beginsT (wCyc ++ [32]) (peekT rest) then (match boolsR wCyc rest with
      | some (l, r) => cycF lat mems ord r.length (ins ++ [l]) r (at_ + 1)
      | none => .bad at_)
    else finT lat mems ord ins rest at_ := by
    intro f hf
    cases f with
    | zero =>
      obtain rfl := List.eq_nil_of_length_eq_zero (Nat.le_zero.1 hf)
      rfl
    | succ f =>
      rw [cycF]
      unfold peekT
      rw [boolsR_eq]
      cases hc : cutT rest with
      | none =>
        simp only
        rw [begins_nil]
        rfl
      | some q =>
        obtain ⟨line, r⟩ := q
        have hl := cutT_len hc
        simp only
        by_cases hb : beginsT (wCyc ++ [32]) line = true
        · rw [if_pos hb, if_pos hb]
          cases boolsT wCyc line with
          | none => rfl
          | some l => exact cycF_fuel (by omega) (Nat.le_refl _)
        · rw [if_neg hb, if_neg hb]
  exact key _ (Nat.le_refl _)
theorem finT_step (lat : List Bool) (mems : List CS) (ord : Bool) (ins : List (List Bool)) (rest : List UInt8) (at_ : Nat) : finT lat mems ord ins rest at_ =
    match numsR wBad [1000] rest with
    | some (ns, r) => if r = [] then (if ord && rightT ⟨lat, mems, ins, ((ns.getD 0 0 : Nat) : Int)⟩ then .ok ⟨lat, mems, ins, ((ns.getD 0 0 : Nat) : Int)⟩ else .ill) else .bad (at_ + 1)
    | none => .bad at_ := by
  rw [numsR_eq]
  unfold finT
  cases hc : cutT rest with
  | none => rfl
  | some q =>
    obtain ⟨line, r⟩ := q
    simp only
    cases hm : numsT wBad [1000] line with
    | none => rfl
    | some l =>
      have hll : l.length = 1 := by
        unfold numsT at hm
        cases hw : wordsT line with
        | nil => rw [hw] at hm; simp at hm
        | cons w ws =>
          rw [hw] at hm
          simp only at hm
          split at hm
          · exact numsP_len hm
          · simp at hm
      match l, hll with
      | [k], _ => rfl
end Go.Proofs.YtamgbfkpblpfiaaGreatDoor
/-
  Witnesses that a call makes: the result's block, memories and cycles in the making.
-/
namespace Go.Proofs.YtamgbfkpblpfiaaGreatDoor
open Go.ChangeShapes Go.WideShapes Go.ChangeAt Go.RowKit
set_option linter.unusedVariables false
set_option linter.unusedSimpArgs false
/-- To store what a cell holds changes nothing. -/
theorem setCell_id {w : World} {g i : Nat} {v : Value} (h : w.cell? ⟨g, i, none⟩ = some v) : w.setCell ⟨g, i, none⟩ v = w := by
  rw [Go.Sort.setCell_eq]
  refine Go.Sort.mapBlock_id w g _ fun c e fr hb => ?_
  have hc : w.cell? ⟨g, i, none⟩ = c[i]? := cell_of_row w g i c e fr hb
  rw [hc] at h
  obtain ⟨hi, h⟩ := Array.getElem?_eq_some_iff.1 h
  rw [← h]
  apply Array.ext'
  apply List.ext_getElem?
  intro j
  rw [Array.toList_setIfInBounds, List.getElem?_set]
  by_cases e : i = j
  · subst e
    simp [hi]
  · simp [e]
theorem Blk.all4 {w : World} {g : Nat} {t : TypeId} {a b c d : Value} (h : Blk w g t #[a, b, c, d]) :
    (w.cell? ⟨g, 0, none⟩ = some a ∧ w.cell? ⟨g, 1, none⟩ = some b ∧ w.cell? ⟨g, 2, none⟩ = some c ∧ w.cell? ⟨g, 3, none⟩ = some d) ∧
    (w.frozen? ⟨g, 0, none⟩ = false ∧ w.frozen? ⟨g, 1, none⟩ = false ∧ w.frozen? ⟨g, 2, none⟩ = false ∧ w.frozen? ⟨g, 3, none⟩ = false) ∧
    (w.setCell ⟨g, 0, none⟩ a = w ∧ w.setCell ⟨g, 1, none⟩ b = w ∧ w.setCell ⟨g, 2, none⟩ c = w ∧ w.setCell ⟨g, 3, none⟩ d = w) :=
  ⟨⟨h.cell 0, h.cell 1, h.cell 2, h.cell 3⟩, ⟨h.frozen 0, h.frozen 1, h.frozen 2, h.frozen 3⟩, setCell_id (h.cell 0), setCell_id (h.cell 1), setCell_id (h.cell 2), setCell_id (h.cell 3)⟩
theorem MemsM.chg2 {w0 w w' : World} {bm : Nat} {us : List Value} {ms : List CS} {S : Nat → Prop} (h : MemsM w0 w bm us ms) (hc : Chg S w w') (hS : ∀ k, S k → k < w0.heap.size ∧ k ≠ bm) : MemsM w0 w' bm us ms :=
  ⟨h.blk.chg hc (fun hk => (hS _ hk).2 rfl), h.len, fun i hi => (h.row i hi).chg hc (fun g hg hk => by have := (hS _ hk).1; have := (h.own i g hi hg).1; omega), h.own, h.ne⟩
/-- Memories, made: none has a cell. -/
theorem MemsM.made (w0 : World) (b : Nat) : MemsM w0 (w0.alloc (.cells (madeCells #[.slice none 0 0] (b * 1)) 119)) w0.heap.size (List.replicate b (.slice none 0 0)) (List.replicate b []) := by
  have e : (madeCells #[.slice none 0 0] (b * 1)) = (List.replicate b (Value.slice none 0 0)).toArray := by
    apply Array.ext'
    have := made_flat #[Value.slice none 0 0] (by simp) b
    rw [show (#[Value.slice none 0 0] : Array Value).size = 1 from rfl] at this
    rw [this]
    simp
  rw [e]
  have hg : ∀ i, i < b → (List.replicate b (Value.slice none 0 0)).getD i undef = .slice none 0 0 := fun i hi => by simp [List.getD, hi]
  refine ⟨Blk.new w0 _ _, by simp, fun i hi => ?_, fun i g hi h => ?_, fun i j g hi hj _ h => ?_⟩
  · rw [List.length_replicate] at hi
    rw [hg i hi]
    have : (List.replicate b ([] : CS)).getD i [] = [] := by simp [List.getD, hi]
    rw [this]
    exact World.ownsRow_nil _ _ _ _
  · rw [List.length_replicate] at hi
    rw [hg i hi] at h
    simp [Value.ownBlock] at h
  · rw [List.length_replicate] at hi
    rw [hg i hi] at h
    simp [Value.ownBlock] at h
/-- Cycles in the making: a list of lists of truths, all the call's own. -/
structure InsM (w0 w : World) (vi : Value) (us : List Value) (ls : List (List Bool)) : Prop where
  top : Row w 24 1 vi us.length us
  len : us.length = ls.length
  row : ∀ i, i < ls.length → Row w 4 1 (us.getD i undef) (ls.getD i []).length ((ls.getD i []).map Value.bool)
  own : ∀ g, vi.ownBlock = some g → w0.heap.size ≤ g
  own2 : ∀ i g, i < ls.length → (us.getD i undef).ownBlock = some g → w0.heap.size ≤ g ∧ vi.ownBlock ≠ some g
  sl : ∀ i, i < ls.length → (us.getD i undef).oneCell' = true
section
variable {w0 w w' : World} {vi : Value} {us : List Value} {ls : List (List Bool)}
theorem InsM.start (w : World) : InsM w w (.slice none 0 0) [] [] := ⟨World.ownsRow_nil _ _ _ _, rfl, fun i hi => absurd hi (by simp), fun g hg => by simp [Value.ownBlock] at hg, fun i g hi => absurd hi (by simp), fun i hi => absurd hi (by simp)⟩
theorem InsM.chg {S : Nat → Prop} (h : InsM w0 w vi us ls) (hc : Chg S w w') (hS : ∀ k, S k → k < w0.heap.size) : InsM w0 w' vi us ls :=
  ⟨h.top.chg hc (fun g hg hk => by have := hS _ hk; have := h.own g hg; omega), h.len, fun i hi => (h.row i hi).chg hc (fun g hg hk => by have := hS _ hk; have := (h.own2 i g hi hg).1; omega), h.own, h.own2, h.sl⟩
theorem InsM.form (h : InsM w0 w vi us ls) : ∃ A cap, vi = .slice A ls.length cap ∧ ls.length ≤ cap ∧ cap ≤ maxLen := by
  rw [← h.len]
  rcases h.top.form with ⟨rfl, h0, -⟩ | ⟨g, cap, rfl, h1, h2, -, -⟩
  · exact ⟨none, 0, by rw [h0], by omega, by simp⟩
  · exact ⟨_, cap, rfl, h1, h2⟩
theorem getD_snocG {α : Type} (l : List α) (x d : α) (i : Nat) : (l ++ [x]).getD i d = if i < l.length then l.getD i d else if i = l.length then x else d := by
  rw [List.getD_eq_getElem?_getD, List.getD_eq_getElem?_getD, List.getElem?_append]
  by_cases h : i < l.length
  · simp [h]
  · by_cases e : i = l.length
    · subst e; simp
    · have : i - l.length ≠ 0 := by omega
      simp [h, e, List.getElem?_eq_none (show [x].length ≤ i - l.length by simp; omega)]
/-- A cycle more. -/
theorem InsM.app (h : InsM w0 w vi us ls) {u : Value} {l : List Bool} (hu : Row w 4 1 u l.length (l.map Value.bool)) (hs : u.oneCell' = true) (hw : w0.heap.size ≤ w.heap.size)
    (hlo : ∀ g, u.ownBlock = some g → w0.heap.size ≤ g ∧ vi.ownBlock ≠ some g) {v' : Value} (hp : AppPost w 24 1 vi (us.length + 1) (us ++ [u]) v' w') :
    InsM w0 w' v' (us ++ [u]) (ls ++ [l]) := by
  obtain ⟨p1, p2, p3⟩ := hp
  have hnv : ∀ g, g < w.heap.size → vi.ownBlock ≠ some g → v'.ownBlock ≠ some g := fun g hg hn e => by
    rcases p3 with e3 | e3
    · rw [e3] at e; exact hn e
    · rw [e3] at e; injection e with e; omega
  refine ⟨by rw [List.length_append]; exact p1, by rw [List.length_append, List.length_append, h.len]; rfl, fun i hi => ?_, fun g hg => ?_, fun i g hi hg => ?_, fun i hi => ?_⟩
  · rw [List.length_append, List.length_singleton] at hi
    rw [getD_snocG, getD_snocG, h.len]
    by_cases e : i < ls.length
    · rw [if_pos e, if_pos e]
      exact (h.row i e).chg p2 (fun g hg e2 => (h.own2 i g e hg).2 e2)
    · have e' : i = ls.length := by omega
      rw [if_neg e, if_neg e, if_pos e', if_pos e']
      exact hu.chg p2 (fun g hg e2 => (hlo g hg).2 e2)
  · rcases p3 with e3 | e3
    · rw [e3] at hg; exact h.own g hg
    · rw [e3] at hg; injection hg with hg; omega
  · rw [List.length_append, List.length_singleton] at hi
    rw [getD_snocG, h.len] at hg
    by_cases e : i < ls.length
    · rw [if_pos e] at hg
      exact ⟨(h.own2 i g e hg).1, hnv g ((h.row i e).lt g hg) (h.own2 i g e hg).2⟩
    · have e' : i = ls.length := by omega
      rw [if_neg e, if_pos e'] at hg
      exact ⟨(hlo g hg).1, hnv g (hu.lt g hg) (hlo g hg).2⟩
  · rw [List.length_append, List.length_singleton] at hi
    rw [getD_snocG, h.len]
    by_cases e : i < ls.length
    · rw [if_pos e]; exact h.sl i e
    · have e' : i = ls.length := by omega
      rw [if_neg e, if_pos e']
      exact hs
theorem row_bo {u : Value} {l : List Bool} (h : Row w 4 1 u l.length (l.map Value.bool)) : Bo w u l := by
  rcases h.form with ⟨rfl, h0, -⟩ | ⟨g, cap, rfl, h1, h2, h3, hc⟩
  · obtain rfl := List.eq_nil_of_length_eq_zero h0
    exact Seq.nil _ _ _ _
  · refine ⟨_, cap, rfl, h1, h2, .inr ⟨g, 0, rfl, fun j hj => ?_⟩⟩
    have := (hc j (by simpa using hj)).1
    unfold BoR
    rw [Nat.zero_add, Nat.mul_one, this]
    simp [List.getD, hj]
theorem InsM.bos (h : InsM w0 w vi us ls) : Bos w vi ls := by
  have hl := h.len
  rcases h.top.form with ⟨rfl, h0, -⟩ | ⟨g, cap, rfl, h1, h2, h3, hc⟩
  · obtain rfl := List.eq_nil_of_length_eq_zero (l := ls) (by omega)
    exact Seq.nil _ _ _ _
  · refine ⟨_, cap, by rw [hl], by omega, h2, .inr ⟨g, 0, rfl, fun j hj => ?_⟩⟩
    have := (hc j (by omega)).1
    refine ⟨us.getD j undef, by rw [Nat.zero_add, Nat.mul_one, this], row_bo (h.row j hj)⟩
end
end Go.Proofs.YtamgbfkpblpfiaaGreatDoor
/-
  strings.HasPrefix, walked.
-/
namespace Go.Proofs.YtamgbfkpblpfiaaGreatDoor
open Go.ChangeShapes Go.WideShapes Go.ChangeAt Go.RowKit
set_option linter.unusedVariables false
set_option linter.unusedSimpArgs false
theorem eval_put_eq (a : Go.Act) (d : Tmp) (v : Value) (h : d < a.tmps.size) : (a.put (some d) v).eval (.tmp d) = v := by simp [Act.eval, Act.put, h]
theorem eval_put_ne (a : Go.Act) (d i : Tmp) (v : Value) (h : d ≠ i) : (a.put (some d) v).eval (.tmp i) = a.eval (.tmp i) := by simp [Act.eval, Act.put, h]
theorem put_size (a : Go.Act) (d : Option Tmp) (v : Value) : (a.put d v).tmps.size = a.tmps.size := by cases d <;> simp [Act.put]
theorem far_cell {w : World} {p : Addr} {u v : Value} {b o : Nat} (h : w.cell? ⟨b, o, none⟩ = some v) (hne : b ≠ p.block) : (w.setCell p u).cell? ⟨b, o, none⟩ = some v := (World.cell?_of_block (Below.heap_setCell w p u b hne)).trans h
theorem lite_begins (s p : List UInt8) (w : World) (hs : s.length ≤ 100000) (hp : p.length ≤ 1000) : Calls Tryz.prog 129 #[.string (bs s), .string (bs p)] w fun e w' => e = .returned (.bool (beginsT p s)) ∧ w = w' := by
  have hz1 := bs_size s
  have hz2 := bs_size p
  unfold beginsT
  rw [prefix_take]
  by_cases h : p.length ≤ s.length
  · have hex : (bs s).extract 0 (bs p).size = bs (s.take p.length) := by rw [bs_extract, bs_list, hz2, List.drop_zero]
    have hr : decide (p.length ≤ s.length ∧ s.take p.length = p) = ((bs (s.take p.length)).toList == (bs p).toList) := by
      rw [Lib.toList_data, Lib.toList_data, bs_list, bs_list, Bool.eq_iff_iff]
      simp [h]
    rw [hr, ← hex]
    have hle : ((bs p).size : Int) ≤ ((bs s).size : Int) := by rw [hz1, hz2]; omega
    have hs1 : (bs s).size ≤ 100000 := by omega
    have hs2 : (bs p).size ≤ 1000 := by omega
    clear hex hr hz1 hz2 h
    generalize bs s = a at *
    generalize bs p = b at *
    go_enter Tryz.func129, Tryz.ntmps129
    go_wp2
    go_ret
    exact ⟨rfl, rfl⟩
  · have hr : decide (p.length ≤ s.length ∧ s.take p.length = p) = false := decide_eq_false (fun hh => h hh.1)
    rw [hr]
    have hle : ¬ ((bs p).size : Int) ≤ ((bs s).size : Int) := by rw [hz1, hz2]; omega
    have hs1 : (bs s).size ≤ 100000 := by omega
    have hs2 : (bs p).size ≤ 1000 := by omega
    clear hr hz1 hz2 h
    generalize bs s = a at *
    generalize bs p = b at *
    go_enter Tryz.func129, Tryz.ntmps129
    go_wp2
    go_ret
    exact ⟨rfl, rfl⟩
theorem begins_ (s p : List UInt8) (w : World) (hs : s.length ≤ 100000) (hp : p.length ≤ 1000) : Calls Tryz.prog 107 #[.string (bs s), .string (bs p)] w fun e w' => e = .returned (.bool (beginsT p s)) ∧ w = w' := by
  have H := Lib.hid (lite_begins s p w hs hp)
  generalize bs s = a at *
  generalize bs p = b at *
  go_enter Tryz.func107, Tryz.ntmps107
  go_wp2_with fail
  refine H.out.mono ?_
  rintro e w1 ⟨rfl, rfl⟩
  go_wp2
  go_ret
  exact ⟨rfl, rfl⟩
theorem peekT_len (s : List UInt8) : (peekT s).length ≤ s.length := by
  unfold peekT
  cases hc : cutT s with
  | none => simp
  | some q =>
    obtain ⟨a, b⟩ := q
    have := cutT_len hc
    simp only
    omega
/-- How long what is left is, by the reader's cell. -/
def restLen (w : World) (r : Nat) : Nat := match w.cell? ⟨r, 0, none⟩ with
  | some (.string s) => s.size
  | _ => 0
theorem RdAt.len {w : World} {r n : Nat} {rest : List UInt8} (h : RdAt w r rest n) : restLen w r = rest.length := by
  unfold restLen
  have : w.cell? ⟨r, 0, none⟩ = some (.string (bs rest)) := h.cell 0
  rw [this]
  exact bs_size rest
end Go.Proofs.YtamgbfkpblpfiaaGreatDoor
