/-
  Witnesses' texts, plain: lines, words, the parser step by step.
-/
import Derived.Test.YtamgbfkpblpfiaaGreatDoorNumL
import Derived.Test.YtamgbfkpblpfiaaGreatDoorTrE
import Derived.Test.YtamgbfkpblpfiaaGreatDoorStL
import Derived.Test.YtamgbfkpblpfiaaGreatDoorDecU
import Derived.Lib.Split
namespace Go.Proofs.YtamgbfkpblpfiaaGreatDoor
set_option linter.unusedVariables false
set_option linter.unusedSimpArgs false
/-- The first line, and what is behind it. -/
def cutT : List UInt8 → Option (List UInt8 × List UInt8)
  | [] => none
  | c :: s => if c = 10 then some ([], s) else match cutT s with | some (l, r) => some (c :: l, r) | none => none
/-- A line's words. -/
def wordsT : List UInt8 → List (List UInt8)
  | [] => [[]]
  | c :: s => if c = 32 then [] :: wordsT s else match wordsT s with | w :: ws => (c :: w) :: ws | [] => [[c]]
theorem wordsT_ne : ∀ s, wordsT s ≠ []
  | [] => by simp [wordsT]
  | c :: s => by
    unfold wordsT
    split
    · simp
    · split <;> simp
theorem cutT_len : ∀ {s l r : List UInt8}, cutT s = some (l, r) → s.length = l.length + 1 + r.length
  | [], l, r, h => by simp [cutT] at h
  | c :: s, l, r, h => by
    unfold cutT at h
    split at h
    · simp at h
      obtain ⟨rfl, rfl⟩ := h
      simp; omega
    · cases hc : cutT s with
      | none => rw [hc] at h; simp at h
      | some q =>
        obtain ⟨l', r'⟩ := q
        rw [hc] at h
        simp at h
        obtain ⟨rfl, rfl⟩ := h
        have := cutT_len hc
        simp; omega
theorem cutT_spec : ∀ {s l r : List UInt8}, cutT s = some (l, r) → s = l ++ 10 :: r ∧ (10 : UInt8) ∉ l
  | [], l, r, h => by simp [cutT] at h
  | c :: s, l, r, h => by
    unfold cutT at h
    split at h
    · rename_i hc
      simp at h
      obtain ⟨rfl, rfl⟩ := h
      subst hc
      simp
    · rename_i hne
      cases hc : cutT s with
      | none => rw [hc] at h; simp at h
      | some q =>
        obtain ⟨l', r'⟩ := q
        rw [hc] at h
        simp at h
        obtain ⟨rfl, rfl⟩ := h
        obtain ⟨h1, h2⟩ := cutT_spec hc
        refine ⟨by rw [h1]; rfl, ?_⟩
        rw [List.mem_cons]
        rintro (h | h)
        · exact hne h.symm
        · exact h2 h
theorem cutT_mk : ∀ {l : List UInt8} (r : List UInt8), (10 : UInt8) ∉ l → cutT (l ++ 10 :: r) = some (l, r)
  | [], r, _ => by simp [cutT]
  | c :: l, r, h => by
    rw [List.mem_cons] at h
    rw [List.cons_append, cutT, if_neg (fun e => h (.inl e.symm)), cutT_mk r (fun e => h (.inr e))]
theorem cutT_none : ∀ {s : List UInt8}, cutT s = none ↔ (10 : UInt8) ∉ s
  | [] => by simp [cutT]
  | c :: s => by
    unfold cutT
    by_cases hc : c = 10
    · subst hc; simp
    · rw [if_neg hc]
      have ih := cutT_none (s := s)
      cases h : cutT s with
      | none =>
        rw [h] at ih
        have := ih.1 rfl
        simp only [true_iff, List.mem_cons]
        rintro (e | e)
        · exact hc e.symm
        · exact this e
      | some q =>
        rw [h] at ih
        have : (10 : UInt8) ∈ s := Classical.byContradiction fun hn => by have := ih.2 hn; cases this
        obtain ⟨a, b⟩ := q
        simp [this]
/-! ### words -/
theorem wordsT_one : ∀ {w : List UInt8}, (32 : UInt8) ∉ w → wordsT w = [w]
  | [], _ => rfl
  | c :: w, h => by
    rw [List.mem_cons] at h
    rw [wordsT, if_neg (fun e => h (.inl e.symm)), wordsT_one (fun e => h (.inr e))]
theorem wordsT_app : ∀ {w : List UInt8} (s : List UInt8), (32 : UInt8) ∉ w → wordsT (w ++ 32 :: s) = w :: wordsT s
  | [], s, _ => by simp [wordsT]
  | c :: w, s, h => by
    rw [List.mem_cons] at h
    rw [List.cons_append, wordsT, if_neg (fun e => h (.inl e.symm)), wordsT_app s (fun e => h (.inr e))]
def joinT (w : List UInt8) (ws : List (List UInt8)) : List UInt8 := w ++ ws.flatMap (fun x => 32 :: x)
theorem wordsT_join : ∀ {ws : List (List UInt8)} {w : List UInt8}, (32 : UInt8) ∉ w → (∀ x ∈ ws, (32 : UInt8) ∉ x) → wordsT (joinT w ws) = w :: ws
  | [], w, h, _ => by unfold joinT; simp [wordsT_one h]
  | x :: ws, w, h, hs => by
    have e : joinT w (x :: ws) = w ++ 32 :: joinT x ws := by unfold joinT; simp
    rw [e, wordsT_app _ h, wordsT_join (hs x (List.mem_cons_self ..)) (fun y hy => hs y (List.mem_cons_of_mem _ hy))]
theorem joinT_words : ∀ {s w : List UInt8} {ws : List (List UInt8)}, wordsT s = w :: ws → s = joinT w ws ∧ (32 : UInt8) ∉ w ∧ ∀ x ∈ ws, (32 : UInt8) ∉ x
  | [], w, ws, h => by
    simp [wordsT] at h
    obtain ⟨rfl, rfl⟩ := h
    exact ⟨rfl, by simp, by simp⟩
  | c :: s, w, ws, h => by
    unfold wordsT at h
    split at h
    · rename_i hc
      subst hc
      injection h with h1 h2
      subst h1
      cases hw : wordsT s with
      | nil => exact absurd hw (wordsT_ne s)
      | cons x xs =>
        obtain ⟨e1, e2, e3⟩ := joinT_words hw
        rw [hw] at h2
        subst h2
        refine ⟨by rw [e1]; unfold joinT; simp, by simp, fun y hy => ?_⟩
        rcases List.mem_cons.1 hy with rfl | hy
        · exact e2
        · exact e3 y hy
    · rename_i hc
      cases hw : wordsT s with
      | nil => exact absurd hw (wordsT_ne s)
      | cons x xs =>
        obtain ⟨e1, e2, e3⟩ := joinT_words hw
        rw [hw] at h
        injection h with h1 h2
        subst h1 h2
        refine ⟨by rw [e1]; unfold joinT; simp, ?_, e3⟩
        rw [List.mem_cons]
        rintro (e | e)
        · exact hc e.symm
        · exact e2 e
/-! ### lines of numbers, of truths -/
def numsP : List (List UInt8) → List Nat → Option (List Nat)
  | [], [] => some []
  | w :: ws, m :: ms => match numU w with
    | some n => if n ≤ m then (match numsP ws ms with | some l => some (n :: l) | none => none) else none
    | none => none
  | _, _ => none
def numsT (word : List UInt8) (most : List Nat) (line : List UInt8) : Option (List Nat) := match wordsT line with
  | w :: ws => if w = word ∧ ws.length = most.length then numsP ws most else none
  | [] => none
def bitsP : List UInt8 → Option (List Bool)
  | [] => some []
  | c :: s => if c = 48 ∨ c = 49 then (match bitsP s with | some l => some (decide (c = 49) :: l) | none => none) else none
def truthsP (w : List UInt8) : Option (List Bool) := if w = [45] then some [] else if w = [] ∨ 4096 < w.length then none else bitsP w
def boolsT (word line : List UInt8) : Option (List Bool) := match wordsT line with
  | [a, b] => if a = word then truthsP b else none
  | _ => none
theorem numsP_len : ∀ {ws : List (List UInt8)} {ms ns : List Nat}, numsP ws ms = some ns → ns.length = ms.length
  | [], [], ns, h => by simp [numsP] at h; subst h; rfl
  | [], m :: ms, ns, h => by simp [numsP] at h
  | w :: ws, [], ns, h => by simp [numsP] at h
  | w :: ws, m :: ms, ns, h => by
    unfold numsP at h
    cases hn : numU w with
    | none => rw [hn] at h; simp at h
    | some n =>
      rw [hn] at h
      simp only at h
      split at h
      · cases hr : numsP ws ms with
        | none => rw [hr] at h; simp at h
        | some l =>
          rw [hr] at h
          simp at h
          subst h
          simp [numsP_len hr]
      · simp at h
theorem bitsP_no : ∀ {w : List UInt8} {c : UInt8}, c ∈ w → ¬ (c = 48 ∨ c = 49) → bitsP w = none
  | [], c, h, _ => by simp at h
  | a :: w, c, h, hn => by
    unfold bitsP
    rcases List.mem_cons.1 h with rfl | h
    · rw [if_neg hn]
    · split
      · rw [bitsP_no h hn]
      · rfl
def beginsT (p s : List UInt8) : Bool := p.isPrefixOf s
/-- A cycle's line: its words are two just if what is behind the first blank has no other. -/
theorem boolsT_begins {word s : List UInt8} (hw : (32 : UInt8) ∉ word) : boolsT word (word ++ 32 :: s) = truthsP s := by
  unfold boolsT
  rw [wordsT_app s hw]
  by_cases h : (32 : UInt8) ∈ s
  · have h1 : truthsP s = none := by
      unfold truthsP
      rw [if_neg (fun e => by rw [e] at h; simp at h)]
      split
      · rfl
      · exact bitsP_no h (by decide)
    rw [h1]
    cases hs : wordsT s with
    | nil => rfl
    | cons a t =>
      cases t with
      | nil =>
        exfalso
        obtain ⟨e, e2, -⟩ := joinT_words hs
        rw [e] at h
        simp [joinT] at h
        exact e2 h
      | cons b t => rfl
  · rw [wordsT_one h]
    simp
end Go.Proofs.YtamgbfkpblpfiaaGreatDoor
/-
  Witnesses' texts, plain: the parser, and there and back.
-/
namespace Go.Proofs.YtamgbfkpblpfiaaGreatDoor
set_option linter.unusedVariables false
set_option linter.unusedSimpArgs false
/-- What a text is: wrong at a line, refused, or a witness. -/
inductive PRes where
  | bad (n : Nat)
  | ill
  | ok (d : TrD)
abbrev wTrace : List UInt8 := [116, 114, 97, 99, 101]
abbrev wLat : List UInt8 := [108, 97, 116, 99, 104, 101, 115]
abbrev wCell : List UInt8 := [99, 101, 108, 108]
abbrev wCyc : List UInt8 := [99, 121, 99, 108, 101]
abbrev wBad : List UInt8 := [98, 97, 100]
def finT (lat : List Bool) (mems : List CS) (ord : Bool) (ins : List (List Bool)) (rest : List UInt8) (at_ : Nat) : PRes :=
  match cutT rest with
  | some (line, r) => (match numsT wBad [1000] line with
    | some [k] => if r = [] then (if ord && rightT ⟨lat, mems, ins, k⟩ then .ok ⟨lat, mems, ins, k⟩ else .ill) else .bad (at_ + 1)
    | _ => .bad at_)
  | none => .bad at_
def cycF (lat : List Bool) (mems : List CS) (ord : Bool) : Nat → List (List Bool) → List UInt8 → Nat → PRes
  | 0, ins, rest, at_ => finT lat mems ord ins rest at_
  | f + 1, ins, rest, at_ => match cutT rest with
    | some (line, r) => if beginsT (wCyc ++ [32]) line then (match boolsT wCyc line with | some l => cycF lat mems ord f (ins ++ [l]) r (at_ + 1) | none => .bad at_) else finT lat mems ord ins rest at_
    | none => finT lat mems ord ins rest at_
def celF (lat : List Bool) (b : Nat) : Nat → List CS → Nat → Bool → List UInt8 → Nat → PRes
  | 0, mems, last, ord, rest, at_ => cycF lat mems ord rest.length [] rest at_
  | f + 1, mems, last, ord, rest, at_ => match cutT rest with
    | some (line, r) => if beginsT (wCell ++ [32]) line then
        (match numsT wCell [3, 18446744073709551615, 18446744073709551615] line with
        | some [m, a, x] => if m < b then celF lat b f (mems.modify m (· ++ [((a : Int), (x : Int))])) m (ord && decide (last ≤ m)) r (at_ + 1) else .bad at_
        | _ => .bad at_)
      else cycF lat mems ord rest.length [] rest at_
    | none => cycF lat mems ord rest.length [] rest at_
def parseT (s : List UInt8) : PRes :=
  match cutT s with
  | some (l1, r1) => (match numsT wTrace [4096, 4] l1 with
    | some [a, b] => (match cutT r1 with
      | some (l2, r2) => (match boolsT wLat l2 with
        | some v => if v.length = a then celF v b r2.length (List.replicate b []) 0 true r2 3 else .bad 2
        | none => .bad 2)
      | none => .bad 2)
    | _ => .bad 1)
  | none => .bad 1
/-! ### more fuel changes nothing -/
theorem cycF_fuel {lat : List Bool} {mems : List CS} {ord : Bool} : ∀ {f g : Nat} {ins : List (List Bool)} {rest : List UInt8} {at_ : Nat}, rest.length ≤ f → rest.length ≤ g → cycF lat mems ord f ins rest at_ = cycF lat mems ord g ins rest at_
  | 0, 0, _, _, _, _, _ => rfl
  | 0, g + 1, ins, rest, at_, h, _ => by
    obtain rfl := List.eq_nil_of_length_eq_zero (Nat.le_zero.1 h)
    rfl
  | f + 1, 0, ins, rest, at_, _, h => by
    obtain rfl := List.eq_nil_of_length_eq_zero (Nat.le_zero.1 h)
    rfl
  | f + 1, g + 1, ins, rest, at_, h1, h2 => by
    rw [cycF, cycF]
    cases hc : cutT rest with
    | none => rfl
    | some q =>
      obtain ⟨line, r⟩ := q
      have := cutT_len hc
      simp only
      split
      · cases boolsT wCyc line with
        | none => rfl
        | some l => exact cycF_fuel (by omega) (by omega)
      · rfl
theorem celF_fuel {lat : List Bool} {b : Nat} : ∀ {f g : Nat} {mems : List CS} {last : Nat} {ord : Bool} {rest : List UInt8} {at_ : Nat}, rest.length ≤ f → rest.length ≤ g → celF lat b f mems last ord rest at_ = celF lat b g mems last ord rest at_
  | 0, 0, _, _, _, _, _, _, _ => rfl
  | 0, g + 1, mems, last, ord, rest, at_, h, _ => by
    obtain rfl := List.eq_nil_of_length_eq_zero (Nat.le_zero.1 h)
    rfl
  | f + 1, 0, mems, last, ord, rest, at_, _, h => by
    obtain rfl := List.eq_nil_of_length_eq_zero (Nat.le_zero.1 h)
    rfl
  | f + 1, g + 1, mems, last, ord, rest, at_, h1, h2 => by
    rw [celF, celF]
    cases hc : cutT rest with
    | none => rfl
    | some q =>
      obtain ⟨line, r⟩ := q
      have := cutT_len hc
      simp only
      split
      · split
        · split
          · exact celF_fuel (by omega) (by omega)
          · rfl
        · rfl
      · rfl
/-! ### texts of words -/
theorem lineT_join (w : List UInt8) (ws : List (List UInt8)) (s : List UInt8) : lineT w ws ++ s = joinT w ws ++ 10 :: s := by
  unfold lineT joinT wordT
  simp
def Clean (w : List UInt8) : Prop := (32 : UInt8) ∉ w ∧ (10 : UInt8) ∉ w
theorem joinT_clean : ∀ {ws : List (List UInt8)} {w : List UInt8}, Clean w → (∀ x ∈ ws, Clean x) → (10 : UInt8) ∉ joinT w ws
  | [], w, h, _ => by unfold joinT; simpa using h.2
  | x :: ws, w, h, hs => by
    have e : joinT w (x :: ws) = w ++ 32 :: joinT x ws := by unfold joinT; simp
    have := joinT_clean (hs x (List.mem_cons_self ..)) (fun y hy => hs y (List.mem_cons_of_mem _ hy))
    rw [e, List.mem_append, List.mem_cons]
    rintro (h1 | h1 | h1)
    · exact h.2 h1
    · exact absurd h1 (by decide)
    · exact this h1
/-- A line that was printed is cut, and parted, as it was. -/
theorem cut_line {w : List UInt8} {ws : List (List UInt8)} (s : List UInt8) (h : Clean w) (hs : ∀ x ∈ ws, Clean x) : cutT (lineT w ws ++ s) = some (joinT w ws, s) ∧ wordsT (joinT w ws) = w :: ws := by
  rw [lineT_join]
  exact ⟨cutT_mk s (joinT_clean h hs), wordsT_join h.1 (fun x hx => (hs x hx).1)⟩
theorem dec_digit : ∀ (u : Nat), ∀ c ∈ Lib.decDigits u, 48 ≤ c.toNat ∧ c.toNat ≤ 57 := by
  intro u
  induction u using Nat.strongRecOn with
  | _ u ih =>
    intro c hc
    rw [Lib.decDigits] at hc
    split at hc
    · rename_i h
      rw [List.mem_singleton] at hc
      subst hc
      rw [UInt8.toNat_ofNat']
      omega
    · rename_i h
      rw [List.mem_append] at hc
      rcases hc with hc | hc
      · exact ih (u / 10) (by omega) c hc
      · rw [List.mem_singleton] at hc
        subst hc
        rw [UInt8.toNat_ofNat']
        omega
theorem decT_clean (n : Int) : Clean (decT n) := ⟨fun h => absurd (dec_digit _ _ h) (by decide), fun h => absurd (dec_digit _ _ h) (by decide)⟩
theorem digs_mem {l : List Bool} {c : UInt8} (h : c ∈ digs l) : c = 48 ∨ c = 49 := by
  unfold digs at h
  obtain ⟨b, -, rfl⟩ := List.mem_map.1 h
  cases b
  · exact .inl rfl
  · exact .inr rfl
theorem truT_clean (l : List Bool) : Clean (truT l) := by
  unfold truT
  split
  · exact ⟨by decide, by decide⟩
  · exact ⟨fun h => by rcases digs_mem h with h | h <;> exact absurd h (by decide), fun h => by rcases digs_mem h with h | h <;> exact absurd h (by decide)⟩
end Go.Proofs.YtamgbfkpblpfiaaGreatDoor
/-
  Cells by memories, plain: one list, and lists by number.
-/
namespace Go.Proofs.YtamgbfkpblpfiaaGreatDoor
set_option linter.unusedVariables false
set_option linter.unusedSimpArgs false
abbrev CellE := Nat × (Int × Int)
def addC (ms : List (List (Int × Int))) (e : CellE) : List (List (Int × Int)) := ms.modify e.1 (· ++ [e.2])
def addAll (ms : List (List (Int × Int))) (cl : List CellE) : List (List (Int × Int)) := cl.foldl addC ms
def cellsOf (n : Nat) (ms : List (List (Int × Int))) : List CellE := (List.range n).flatMap fun i => (ms.getD i []).map fun c => (i, c)
def keyC (e : CellE) : Int := (e.1 : Int)
theorem addC_len (ms : List (List (Int × Int))) (e : CellE) : (addC ms e).length = ms.length := by unfold addC; simp
theorem addAll_len : ∀ (cl : List CellE) (ms : List (List (Int × Int))), (addAll ms cl).length = ms.length
  | [], ms => rfl
  | e :: cl, ms => by
    show (addAll (addC ms e) cl).length = _
    rw [addAll_len cl, addC_len]
theorem addC_get (ms : List (List (Int × Int))) (e : CellE) (i : Nat) (hi : i < ms.length) : (addC ms e).getD i [] = ms.getD i [] ++ (if e.1 = i then [e.2] else []) := by
  unfold addC
  rw [List.getD_eq_getElem?_getD, List.getD_eq_getElem?_getD, List.getElem?_modify, List.getElem?_eq_getElem hi]
  by_cases h : e.1 = i <;> simp [h]
theorem addAll_get : ∀ (cl : List CellE) (ms : List (List (Int × Int))) (i : Nat), i < ms.length → (addAll ms cl).getD i [] = ms.getD i [] ++ (cl.filter fun e => decide (e.1 = i)).map (·.2)
  | [], ms, i, _ => by simp [addAll]
  | e :: cl, ms, i, hi => by
    show (addAll (addC ms e) cl).getD i [] = _
    rw [addAll_get cl _ i (by rw [addC_len]; exact hi), addC_get ms e i hi]
    by_cases h : e.1 = i
    · rw [if_pos h, List.filter_cons_of_pos (by simpa using h)]
      simp
    · rw [if_neg h, List.filter_cons_of_neg (by simpa using h)]
      simp
theorem rep_get (n i : Nat) : (List.replicate n ([] : List (Int × Int))).getD i [] = [] := by
  rw [List.getD_eq_getElem?_getD, List.getElem?_replicate]
  split <;> rfl
theorem cellsOf_filter (ms : List (List (Int × Int))) (i : Nat) : ∀ n : Nat, (cellsOf n ms).filter (fun e => decide (e.1 = i)) = if i < n then (ms.getD i []).map (fun c => (i, c)) else []
  | 0 => by simp [cellsOf]
  | n + 1 => by
    have e : cellsOf (n + 1) ms = cellsOf n ms ++ (ms.getD n []).map (fun c => (n, c)) := by unfold cellsOf; rw [List.range_succ, List.flatMap_append]; simp
    rw [e, List.filter_append, cellsOf_filter ms i n]
    by_cases h : i = n
    · subst h
      rw [if_neg (by omega), if_pos (by omega), List.nil_append, List.filter_eq_self.2]
      intro a ha
      obtain ⟨c, -, rfl⟩ := List.mem_map.1 ha
      simp
    · have : ((ms.getD n []).map (fun c => (n, c))).filter (fun e => decide (e.1 = i)) = [] := by
        rw [List.filter_eq_nil_iff]
        intro a ha
        obtain ⟨c, -, rfl⟩ := List.mem_map.1 ha
        simp
        omega
      rw [this, List.append_nil]
      by_cases h2 : i < n
      · rw [if_pos h2, if_pos (by omega)]
      · rw [if_neg h2, if_neg (by omega)]
/-- The cells of memories, put back one by one, are the memories. -/
theorem addAll_cells (ms : List (List (Int × Int))) : addAll (List.replicate ms.length []) (cellsOf ms.length ms) = ms := by
  apply List.ext_getElem
  · rw [addAll_len, List.length_replicate]
  · intro i h1 h2
    have h := addAll_get (cellsOf ms.length ms) (List.replicate ms.length []) i (by rw [List.length_replicate]; exact h2)
    rw [rep_get, cellsOf_filter, if_pos h2] at h
    rw [List.getD_eq_getElem?_getD, List.getElem?_eq_getElem h1] at h
    rw [List.getD_eq_getElem?_getD, List.getElem?_eq_getElem h2] at h
    simpa [List.map_map, Function.comp_def] using h
theorem cellsOf_srt (ms : List (List (Int × Int))) : ∀ n : Nat, Srt keyC (cellsOf n ms) ∧ ∀ e ∈ cellsOf n ms, e.1 < n
  | 0 => by simp [cellsOf, Srt]
  | n + 1 => by
    have e : cellsOf (n + 1) ms = cellsOf n ms ++ (ms.getD n []).map (fun c => (n, c)) := by unfold cellsOf; rw [List.range_succ, List.flatMap_append]; simp
    obtain ⟨h1, h2⟩ := cellsOf_srt ms n
    rw [e]
    refine ⟨h1.app ?_ fun x hx y hy => ?_, fun x hx => ?_⟩
    · unfold Srt
      rw [List.pairwise_map]
      exact List.pairwise_of_forall (fun _ _ => Int.le_refl _)
    · obtain ⟨c, -, rfl⟩ := List.mem_map.1 hy
      have := h2 x hx
      unfold keyC
      simp
      omega
    · rcases List.mem_append.1 hx with hx | hx
      · have := h2 x hx; omega
      · obtain ⟨c, -, rfl⟩ := List.mem_map.1 hx
        simp
/-- Cells in order are the cells of what they come to. -/
theorem cells_addAll {cl : List CellE} {b : Nat} (hs : Srt keyC cl) (hb : ∀ e ∈ cl, e.1 < b) : cellsOf b (addAll (List.replicate b []) cl) = cl := by
  refine (srt_uniq hs (cellsOf_srt _ b).1 fun k => ?_).symm
  by_cases hk : 0 ≤ k ∧ k < (b : Int)
  · obtain ⟨i, rfl⟩ : ∃ i : Nat, k = i := ⟨k.toNat, by omega⟩
    have e1 : ∀ l : List CellE, l.filter (fun x => decide (keyC x = (i : Int))) = l.filter (fun e => decide (e.1 = i)) := fun l => List.filter_congr fun x _ => by
      unfold keyC
      rw [decide_eq_decide]
      omega
    rw [e1, e1, cellsOf_filter, if_pos (by omega), addAll_get _ _ _ (by rw [List.length_replicate]; omega), rep_get, List.nil_append, List.map_map]
    symm
    refine (List.map_congr_left fun x hx => ?_).trans (List.map_id _)
    have := of_decide_eq_true (List.mem_filter.1 hx).2
    subst this
    rfl
  · rw [List.filter_eq_nil_iff.2, List.filter_eq_nil_iff.2]
    · intro x hx h
      have := (cellsOf_srt (addAll (List.replicate b []) cl) b).2 x hx
      have h2 : keyC x = k := of_decide_eq_true h
      unfold keyC at h2
      omega
    · intro x hx h
      have := hb x hx
      have h2 : keyC x = k := of_decide_eq_true h
      unfold keyC at h2
      omega
end Go.Proofs.YtamgbfkpblpfiaaGreatDoor
/-
  Witnesses' texts, plain: there and back.
-/
namespace Go.Proofs.YtamgbfkpblpfiaaGreatDoor
set_option linter.unusedVariables false
set_option linter.unusedSimpArgs false
def cellE (e : CellE) : List UInt8 := cellT e.1 e.2
def ordC : Nat → List CellE → Bool
  | _, [] => true
  | last, e :: cl => decide (last ≤ e.1) && ordC e.1 cl
def lastC : Nat → List CellE → Nat
  | last, [] => last
  | _, e :: cl => lastC e.1 cl
theorem ordC_srt : ∀ {cl : List CellE} {last : Nat}, ordC last cl = true → Srt keyC cl ∧ ∀ e ∈ cl, last ≤ e.1
  | [], _, _ => ⟨by simp [Srt], by simp⟩
  | e :: cl, last, h => by
    unfold ordC at h
    rw [Bool.and_eq_true] at h
    obtain ⟨h1, h2⟩ := ordC_srt h.2
    have h0 := of_decide_eq_true h.1
    refine ⟨List.pairwise_cons.2 ⟨fun x hx => ?_, h1⟩, fun x hx => ?_⟩
    · have := h2 x hx
      unfold keyC
      omega
    · rcases List.mem_cons.1 hx with rfl | hx
      · exact h0
      · have := h2 x hx
        omega
theorem srt_ordC : ∀ {cl : List CellE} {last : Nat}, Srt keyC cl → (∀ e ∈ cl, last ≤ e.1) → ordC last cl = true
  | [], _, _, _ => rfl
  | e :: cl, last, h, hl => by
    unfold ordC
    rw [Bool.and_eq_true]
    refine ⟨decide_eq_true (hl e (List.mem_cons_self ..)), srt_ordC (List.pairwise_cons.1 h).2 fun x hx => ?_⟩
    have : keyC e ≤ keyC x := (List.pairwise_cons.1 h).1 x hx
    unfold keyC at this
    omega
theorem memsT_cells (ms : List CS) : ∀ n : Nat, (cellsOf n ms).flatMap cellE = memsT ms n
  | 0 => by simp [cellsOf, memsT]
  | n + 1 => by
    have e : cellsOf (n + 1) ms = cellsOf n ms ++ (ms.getD n []).map (fun c => (n, c)) := by unfold cellsOf; rw [List.range_succ, List.flatMap_append]; simp
    rw [e, List.flatMap_append, memsT_cells ms n, memsT_succ]
    congr 1
    unfold memT
    rw [List.flatMap_map]
    rfl
theorem clean_words : Clean wTrace ∧ Clean wLat ∧ Clean wCell ∧ Clean wCyc ∧ Clean wBad := ⟨⟨by decide, by decide⟩, ⟨by decide, by decide⟩, ⟨by decide, by decide⟩, ⟨by decide, by decide⟩, ⟨by decide, by decide⟩⟩
theorem bitsP_digs : ∀ l : List Bool, bitsP (digs l) = some l
  | [] => rfl
  | b :: l => by
    have e : digs (b :: l) = dig b :: digs l := rfl
    rw [e, bitsP, bitsP_digs l]
    cases b <;> rfl
theorem truthsP_tru {v : List Bool} (h : v.length ≤ 4096) : truthsP (truT v) = some v := by
  unfold truthsP truT
  by_cases hv : v = []
  · rw [if_pos hv, if_pos rfl, hv]
  · rw [if_neg hv]
    have hl : (digs v).length = v.length := by unfold digs; simp
    have h1 : digs v ≠ [45] := fun e => by
      have : (45 : UInt8) ∈ digs v := by rw [e]; simp
      rcases digs_mem this with h | h <;> exact absurd h (by decide)
    have h2 : digs v ≠ [] := fun e => hv (List.eq_nil_of_length_eq_zero (by rw [← hl, e]; rfl))
    rw [if_neg h1, if_neg (by rw [hl]; rintro (h | h); exact h2 h; omega), bitsP_digs]
theorem bitsP_inv : ∀ {w : List UInt8} {v : List Bool}, bitsP w = some v → w = digs v
  | [], v, h => by simp [bitsP] at h; subst h; rfl
  | c :: w, v, h => by
    unfold bitsP at h
    split at h
    · rename_i hc
      cases hb : bitsP w with
      | none => rw [hb] at h; simp at h
      | some l =>
        rw [hb] at h
        simp at h
        subst h
        rw [bitsP_inv hb]
        show c :: digs l = dig _ :: digs l
        congr 1
        rcases hc with rfl | rfl <;> rfl
    · simp at h
theorem truthsP_inv {w : List UInt8} {v : List Bool} (h : truthsP w = some v) : w = truT v ∧ v.length ≤ 4096 := by
  unfold truthsP at h
  split at h
  · rename_i hw
    simp at h
    subst h
    exact ⟨hw, by simp⟩
  · split at h
    · simp at h
    · rename_i h1 h2
      have e := bitsP_inv h
      have hl : (digs v).length = v.length := by unfold digs; simp
      have hv : v ≠ [] := fun hv => h2 (.inl (by rw [e, hv]; rfl))
      refine ⟨by unfold truT; rw [if_neg hv]; exact e, ?_⟩
      rw [← hl, ← e]
      exact Nat.le_of_not_lt fun h => h2 (.inr h)
theorem decT_nat (n : Nat) : decT (n : Int) = Lib.decDigits n := by unfold decT; simp
theorem numsP_inv : ∀ {ws : List (List UInt8)} {ms ns : List Nat}, numsP ws ms = some ns → ws = ns.map (fun n : Nat => decT (n : Int)) ∧ (∀ n ∈ ns, n ≤ 18446744073709551615) ∧ ∀ i, ns.getD i 0 ≤ ms.getD i 0
  | [], [], ns, h => by simp [numsP] at h; subst h; simp
  | [], m :: ms, ns, h => by simp [numsP] at h
  | w :: ws, [], ns, h => by simp [numsP] at h
  | w :: ws, m :: ms, ns, h => by
    unfold numsP at h
    cases hn : numU w with
    | none => rw [hn] at h; simp at h
    | some n =>
      rw [hn] at h
      simp only at h
      split at h
      · rename_i hm
        cases hr : numsP ws ms with
        | none => rw [hr] at h; simp at h
        | some l =>
          rw [hr] at h
          simp at h
          subst h
          obtain ⟨h1, h2, h3⟩ := numsP_inv hr
          obtain ⟨d1, d2⟩ := dec_num hn
          refine ⟨by rw [List.map_cons, ← h1, decT_nat, d1], fun x hx => ?_, fun i => ?_⟩
          · rcases List.mem_cons.1 hx with rfl | hx
            · exact d2
            · exact h2 x hx
          · cases i with
            | zero => exact hm
            | succ i => exact h3 i
      · simp at h
theorem numsT_inv {word : List UInt8} {most : List Nat} {line : List UInt8} {ns : List Nat} (h : numsT word most line = some ns) : line = joinT word (ns.map (fun n : Nat => decT (n : Int))) ∧ (∀ n ∈ ns, n ≤ 18446744073709551615) ∧ ∀ i, ns.getD i 0 ≤ most.getD i 0 := by
  unfold numsT at h
  cases hw : wordsT line with
  | nil => rw [hw] at h; simp at h
  | cons w ws =>
    rw [hw] at h
    simp only at h
    split at h
    · rename_i hc
      obtain ⟨h1, h2, h3⟩ := numsP_inv h
      obtain ⟨e, -, -⟩ := joinT_words hw
      exact ⟨by rw [e, h1, hc.1], h2, h3⟩
    · simp at h
theorem boolsT_inv {word line : List UInt8} {v : List Bool} (h : boolsT word line = some v) : line = joinT word [truT v] ∧ v.length ≤ 4096 := by
  unfold boolsT at h
  cases hw : wordsT line with
  | nil => rw [hw] at h; simp at h
  | cons a t =>
    cases t with
    | nil => rw [hw] at h; simp at h
    | cons b t =>
      cases t with
      | cons c t => rw [hw] at h; simp at h
      | nil =>
        rw [hw] at h
        simp only at h
        split at h
        · rename_i ha
          obtain ⟨h1, h2⟩ := truthsP_inv h
          obtain ⟨e, -, -⟩ := joinT_words hw
          exact ⟨by rw [e, ha, h1], h2⟩
        · simp at h
theorem numsT_mk {word : List UInt8} {most ns : List Nat} (hw : Clean word) (h : numsP (ns.map (fun n : Nat => decT (n : Int))) most = some ns) : numsT word most (joinT word (ns.map (fun n : Nat => decT (n : Int)))) = some ns := by
  have e := wordsT_join (w := word) (ws := ns.map (fun n : Nat => decT (n : Int))) hw.1 (fun x hx => by
    obtain ⟨n, -, rfl⟩ := List.mem_map.1 hx
    exact (decT_clean n).1)
  unfold numsT
  rw [e]
  simp only
  have hl := numsP_len h
  rw [if_pos (by refine ⟨?_, ?_⟩ <;> first | trivial | rw [List.length_map, hl]), h]
theorem numsP_mk : ∀ {ns ms : List Nat}, ns.length = ms.length → (∀ n ∈ ns, n ≤ 18446744073709551615) → (∀ i, i < ns.length → ns.getD i 0 ≤ ms.getD i 0) → numsP (ns.map (fun n : Nat => decT (n : Int))) ms = some ns
  | [], [], _, _, _ => rfl
  | [], m :: ms, h, _, _ => by simp at h
  | n :: ns, [], h, _, _ => by simp at h
  | n :: ns, m :: ms, h, h1, h2 => by
    rw [List.map_cons, numsP, decT_nat, num_dec n (h1 n (List.mem_cons_self ..))]
    simp only
    rw [if_pos (show n ≤ m from h2 0 (by simp)), numsP_mk (by simpa using h) (fun x hx => h1 x (List.mem_cons_of_mem _ hx)) (fun i hi => h2 (i + 1) (by simpa using hi))]
theorem boolsT_mk {word : List UInt8} {v : List Bool} (hw : Clean word) (h : v.length ≤ 4096) : boolsT word (joinT word [truT v]) = some v := by
  have e := wordsT_join (w := word) (ws := [truT v]) hw.1 (fun x hx => by simp at hx; subst hx; exact (truT_clean v).1)
  unfold boolsT
  rw [e]
  simp only [if_true]
  exact truthsP_tru h
/-! ### what is printed is parsed -/
theorem begins_self (w : List UInt8) (x : List UInt8) (ws : List (List UInt8)) : beginsT (w ++ [32]) (joinT w (x :: ws)) = true := by
  have e : joinT w (x :: ws) = (w ++ [32]) ++ joinT x ws := by unfold joinT; simp
  unfold beginsT
  rw [e, List.isPrefixOf_iff_prefix]
  exact List.prefix_append ..
theorem cellE_cut {e : CellE} (s : List UInt8) : cutT (cellE e ++ s) = some (joinT wCell [decT e.1, decT e.2.1, decT e.2.2], s) :=
  (cut_line s clean_words.2.2.1 (fun x hx => by simp at hx; rcases hx with rfl | rfl | rfl <;> exact decT_clean _)).1
theorem celF_cells {lat : List Bool} {b : Nat} : ∀ (cl : List CellE) (f : Nat) (ms : List CS) (last : Nat) (ord : Bool) (tail : List UInt8) (at_ : Nat), (∀ e ∈ cl, e.1 < b ∧ e.1 ≤ 3 ∧ wf e.2.1 ∧ wf e.2.2) → (cl.flatMap cellE ++ tail).length ≤ f →
    celF lat b f ms last ord (cl.flatMap cellE ++ tail) at_ = celF lat b tail.length (addAll ms cl) (lastC last cl) (ord && ordC last cl) tail (at_ + cl.length)
  | [], f, ms, last, ord, tail, at_, _, hf => by
    simp only [List.flatMap_nil, List.nil_append] at hf ⊢
    rw [celF_fuel hf (Nat.le_refl _)]
    simp [addAll, lastC, ordC]
  | e :: cl, f, ms, last, ord, tail, at_, h, hf => by
    obtain ⟨h1, h2, h3, h4⟩ := h e (List.mem_cons_self ..)
    rw [List.flatMap_cons, List.append_assoc] at hf ⊢
    have hc := cellE_cut (e := e) (cl.flatMap cellE ++ tail)
    have hlen := cutT_len hc
    cases f with
    | zero => omega
    | succ f =>
      have hn : numsT wCell [3, 18446744073709551615, 18446744073709551615] (joinT wCell [decT e.1, decT e.2.1, decT e.2.2]) = some [e.1, e.2.1.toNat, e.2.2.toNat] := by
        have := numsT_mk (word := wCell) (most := [3, 18446744073709551615, 18446744073709551615]) (ns := [e.1, e.2.1.toNat, e.2.2.toNat]) clean_words.2.2.1 (numsP_mk rfl (fun n hn => by
          unfold wf at h3 h4
          simp at hn
          omega) (fun i hi => by
          unfold wf at h3 h4
          match i, hi with
          | 0, _ => exact h2
          | 1, _ => show e.2.1.toNat ≤ _; simp; omega
          | 2, _ => show e.2.2.toNat ≤ _; simp; omega))
        have t1 : ((e.2.1.toNat : Nat) : Int) = e.2.1 := Int.toNat_of_nonneg h3.1
        have t2 : ((e.2.2.toNat : Nat) : Int) = e.2.2 := Int.toNat_of_nonneg h4.1
        simp only [List.map_cons, List.map_nil, t1, t2] at this
        exact this
      rw [celF, hc]
      simp only
      rw [if_pos (begins_self _ _ _), hn]
      simp only
      rw [if_pos h1]
      have t1 : ((e.2.1.toNat : Nat) : Int) = e.2.1 := Int.toNat_of_nonneg h3.1
      have t2 : ((e.2.2.toNat : Nat) : Int) = e.2.2 := Int.toNat_of_nonneg h4.1
      rw [t1, t2, celF_cells cl f _ e.1 _ tail (at_ + 1) (fun x hx => h x (List.mem_cons_of_mem _ hx)) (by omega)]
      have e1 : addAll (ms.modify e.1 (· ++ [(e.2.1, e.2.2)])) cl = addAll ms (e :: cl) := rfl
      rw [e1, Bool.and_assoc]
      congr 1
      simp only [List.length_cons]
      omega
theorem cycT_cut (l : List Bool) (s : List UInt8) : cutT (cycT l ++ s) = some (joinT wCyc [truT l], s) :=
  (cut_line s clean_words.2.2.2.1 (fun x hx => by simp at hx; subst hx; exact truT_clean _)).1
theorem cycF_cycs {lat : List Bool} {mems : List CS} {ord : Bool} : ∀ (ls : List (List Bool)) (f : Nat) (ins : List (List Bool)) (tail : List UInt8) (at_ : Nat), (∀ l ∈ ls, l.length ≤ 4096) → (ls.flatMap cycT ++ tail).length ≤ f →
    cycF lat mems ord f ins (ls.flatMap cycT ++ tail) at_ = cycF lat mems ord tail.length (ins ++ ls) tail (at_ + ls.length)
  | [], f, ins, tail, at_, _, hf => by
    simp only [List.flatMap_nil, List.nil_append] at hf ⊢
    rw [cycF_fuel hf (Nat.le_refl _)]
    simp
  | l :: ls, f, ins, tail, at_, h, hf => by
    rw [List.flatMap_cons, List.append_assoc] at hf ⊢
    have hc := cycT_cut l (ls.flatMap cycT ++ tail)
    have hlen := cutT_len hc
    cases f with
    | zero => omega
    | succ f =>
      rw [cycF, hc]
      simp only
      rw [if_pos (begins_self _ _ _), boolsT_mk clean_words.2.2.2.1 (h l (List.mem_cons_self ..))]
      simp only
      rw [cycF_cycs ls f _ tail (at_ + 1) (fun x hx => h x (List.mem_cons_of_mem _ hx)) (by omega)]
      simp only [List.append_assoc, List.cons_append, List.nil_append, List.length_cons]
      congr 1
      omega
theorem celF_skip {lat : List Bool} {b : Nat} {f : Nat} {ms : List CS} {last : Nat} {ord : Bool} {rest : List UInt8} {at_ : Nat} (h : ∀ line r, cutT rest = some (line, r) → beginsT (wCell ++ [32]) line = false) : celF lat b f ms last ord rest at_ = cycF lat ms ord rest.length [] rest at_ := by
  cases f with
  | zero => rfl
  | succ f =>
    rw [celF]
    cases hc : cutT rest with
    | none => rfl
    | some q =>
      obtain ⟨line, r⟩ := q
      simp only
      rw [if_neg (by rw [h line r hc]; simp)]
theorem cycF_skip {lat : List Bool} {ms : List CS} {f : Nat} {ord : Bool} {ins : List (List Bool)} {rest : List UInt8} {at_ : Nat} (h : ∀ line r, cutT rest = some (line, r) → beginsT (wCyc ++ [32]) line = false) : cycF lat ms ord f ins rest at_ = finT lat ms ord ins rest at_ := by
  cases f with
  | zero => rfl
  | succ f =>
    rw [cycF]
    cases hc : cutT rest with
    | none => rfl
    | some q =>
      obtain ⟨line, r⟩ := q
      simp only
      rw [if_neg (by rw [h line r hc]; simp)]
theorem rightT_parts {d : TrD} (h : rightT d = true) : (d.lat.length ≤ 4096 ∧ d.mems.length ≤ 4 ∧ d.ins.length ≤ 4096 ∧ 0 ≤ d.bad ∧ d.bad ≤ 1000) ∧ (∀ l ∈ d.ins, l.length ≤ 4096) := by
  unfold rightT at h
  rw [Bool.and_eq_true, Bool.and_eq_true] at h
  refine ⟨dimT_parts h.1, fun l hl => ?_⟩
  have h1 : d.ins.any longB = false := by simpa using h.2.1
  have h2 := List.any_eq_false.1 h1 l hl
  unfold longB at h2
  simpa using h2
theorem parse_print {d : TrD} (hr : rightT d = true) (hw : ∀ m ∈ d.mems, ∀ p ∈ m, wf p.1 ∧ wf p.2) : parseT (printT d) = .ok d := by
  obtain ⟨⟨h1, h2, h3, h4, h5⟩, h6⟩ := rightT_parts hr
  have hb : ((d.bad.toNat : Nat) : Int) = d.bad := Int.toNat_of_nonneg h4
  have hcl : ∀ e ∈ cellsOf d.mems.length d.mems, e.1 < d.mems.length ∧ e.1 ≤ 3 ∧ wf e.2.1 ∧ wf e.2.2 := fun e he => by
    have hlt := (cellsOf_srt d.mems d.mems.length).2 e he
    refine ⟨hlt, by omega, ?_⟩
    unfold cellsOf at he
    obtain ⟨i, hi, he⟩ := List.mem_flatMap.1 he
    obtain ⟨c, hc, rfl⟩ := List.mem_map.1 he
    rw [List.mem_range] at hi
    rw [List.getD_eq_getElem?_getD, List.getElem?_eq_getElem hi] at hc
    exact hw _ (List.getElem_mem hi) c hc
  have e : printT d = lineT wTrace [decT d.lat.length, decT d.mems.length] ++ (lineT wLat [truT d.lat] ++ ((cellsOf d.mems.length d.mems).flatMap cellE ++ (d.ins.flatMap cycT ++ lineT wBad [decT d.bad]))) := by
    rw [memsT_cells]
    unfold printT headT
    simp only [List.append_assoc]
  have c1 := (cut_line (w := wTrace) (ws := [decT d.lat.length, decT d.mems.length]) (lineT wLat [truT d.lat] ++ ((cellsOf d.mems.length d.mems).flatMap cellE ++ (d.ins.flatMap cycT ++ lineT wBad [decT d.bad]))) clean_words.1 (fun x hx => by simp at hx; rcases hx with rfl | rfl <;> exact decT_clean _)).1
  have n1 := numsT_mk (word := wTrace) (most := [4096, 4]) (ns := [d.lat.length, d.mems.length]) clean_words.1 (numsP_mk rfl (fun n hn => by simp at hn; omega) (fun i hi => by
    match i, hi with
    | 0, _ => exact h1
    | 1, _ => exact h2))
  have c2 := (cut_line (w := wLat) (ws := [truT d.lat]) ((cellsOf d.mems.length d.mems).flatMap cellE ++ (d.ins.flatMap cycT ++ lineT wBad [decT d.bad])) clean_words.2.1 (fun x hx => by simp at hx; subst hx; exact truT_clean _)).1
  have n2 := boolsT_mk (word := wLat) (v := d.lat) clean_words.2.1 h1
  have c3 := (cut_line (w := wBad) (ws := [decT d.bad]) [] clean_words.2.2.2.2 (fun x hx => by simp at hx; subst hx; exact decT_clean _)).1
  rw [List.append_nil] at c3
  have n3 := numsT_mk (word := wBad) (most := [1000]) (ns := [d.bad.toNat]) clean_words.2.2.2.2 (numsP_mk rfl (fun n hn => by simp at hn; omega) (fun i hi => by
    match i, hi with
    | 0, _ => show d.bad.toNat ≤ 1000; omega))
  simp only [List.map_cons, List.map_nil, hb] at n1 n3
  have hskB : ∀ line r, cutT (lineT wBad [decT d.bad]) = some (line, r) → beginsT (wCell ++ [32]) line = false ∧ beginsT (wCyc ++ [32]) line = false := fun line r h => by
    rw [c3] at h
    injection h with h
    injection h with h h'
    subst h
    exact ⟨rfl, rfl⟩
  have hsk : ∀ line r, cutT (d.ins.flatMap cycT ++ lineT wBad [decT d.bad]) = some (line, r) → beginsT (wCell ++ [32]) line = false := fun line r h => by
    cases hi : d.ins with
    | nil =>
      rw [hi] at h
      simp only [List.flatMap_nil, List.nil_append] at h
      exact (hskB line r h).1
    | cons l ls =>
      rw [hi, List.flatMap_cons, List.append_assoc, cycT_cut] at h
      injection h with h
      injection h with h h'
      subst h
      rfl
  unfold parseT
  rw [e, c1]
  simp only
  rw [n1]
  simp only
  rw [c2]
  simp only
  rw [n2]
  simp only
  rw [if_pos trivial, celF_cells (cellsOf d.mems.length d.mems) _ _ _ _ _ _ hcl (Nat.le_refl _), celF_skip hsk, cycF_cycs d.ins _ _ _ _ h6 (Nat.le_refl _), cycF_skip (fun line r h => (hskB line r h).2), addAll_cells]
  rw [srt_ordC (cellsOf_srt d.mems d.mems.length).1 (fun _ _ => Nat.zero_le _)]
  unfold finT
  rw [c3]
  simp only
  rw [n3]
  simp only [List.nil_append, Bool.and_self, Bool.true_and, hb, if_true]
  rw [if_pos hr]
/-! ### what is parsed is printed so -/
theorem begins_inv {w s : List UInt8} (h : beginsT (w ++ [32]) s = true) : ∃ t, s = w ++ 32 :: t := by
  unfold beginsT at h
  rw [List.isPrefixOf_iff_prefix] at h
  obtain ⟨t, rfl⟩ := h
  exact ⟨t, by simp⟩
theorem finT_ok {lat : List Bool} {mems : List CS} {ord : Bool} {ins : List (List Bool)} {rest : List UInt8} {at_ : Nat} {d : TrD} (h : finT lat mems ord ins rest at_ = .ok d) :
    rest = lineT wBad [decT d.bad] ∧ ord = true ∧ rightT d = true ∧ d.lat = lat ∧ d.mems = mems ∧ d.ins = ins := by
  unfold finT at h
  cases hc : cutT rest with
  | none => rw [hc] at h; simp at h
  | some q =>
    obtain ⟨line, r⟩ := q
    rw [hc] at h
    simp only at h
    split at h
    · rename_i k hn
      split at h
      · rename_i hr
        split at h
        · rename_i ho
          rw [Bool.and_eq_true] at ho
          injection h with h
          subst h
          obtain ⟨e1, -, -⟩ := numsT_inv hn
          obtain ⟨e2, -⟩ := cutT_spec hc
          refine ⟨?_, ho.1, ho.2, rfl, rfl, rfl⟩
          rw [e2, e1, hr]
          have := lineT_join wBad [decT (k : Int)] []
          rw [List.append_nil] at this
          rw [this]
          rfl
        · simp at h
      · simp at h
    · simp at h
theorem cycF_ok {lat : List Bool} {mems : List CS} {ord : Bool} {d : TrD} : ∀ {f : Nat} {ins : List (List Bool)} {rest : List UInt8} {at_ : Nat}, cycF lat mems ord f ins rest at_ = .ok d → ∃ ls tail a, rest = ls.flatMap cycT ++ tail ∧ finT lat mems ord (ins ++ ls) tail a = .ok d
  | 0, ins, rest, at_, h => ⟨[], rest, at_, rfl, by rw [List.append_nil]; exact h⟩
  | f + 1, ins, rest, at_, h => by
    rw [cycF] at h
    have hfin : finT lat mems ord ins rest at_ = .ok d → ∃ ls tail a, rest = ls.flatMap cycT ++ tail ∧ finT lat mems ord (ins ++ ls) tail a = .ok d := fun h => ⟨[], rest, at_, rfl, by rw [List.append_nil]; exact h⟩
    cases hc : cutT rest with
    | none => rw [hc] at h; exact hfin h
    | some q =>
      obtain ⟨line, r⟩ := q
      rw [hc] at h
      simp only at h
      split at h
      · cases hb : boolsT wCyc line with
        | none => rw [hb] at h; simp at h
        | some l =>
          rw [hb] at h
          obtain ⟨ls, tail, a, e, hf⟩ := cycF_ok h
          obtain ⟨e1, -⟩ := boolsT_inv hb
          obtain ⟨e2, -⟩ := cutT_spec hc
          refine ⟨l :: ls, tail, a, ?_, by simpa using hf⟩
          rw [e2, e1, e, List.flatMap_cons, List.append_assoc]
          exact (lineT_join wCyc [truT l] _).symm
      · exact hfin h
theorem celF_ok {lat : List Bool} {b : Nat} {d : TrD} : ∀ {f : Nat} {ms : List CS} {last : Nat} {ord : Bool} {rest : List UInt8} {at_ : Nat}, celF lat b f ms last ord rest at_ = .ok d → ∃ cl tail a, rest = cl.flatMap cellE ++ tail ∧ cycF lat (addAll ms cl) (ord && ordC last cl) tail.length [] tail a = .ok d ∧ ∀ e ∈ cl, e.1 < b ∧ wf e.2.1 ∧ wf e.2.2
  | 0, ms, last, ord, rest, at_, h => ⟨[], rest, at_, rfl, by rw [show (ord && ordC last []) = ord from Bool.and_true _]; exact h, by simp⟩
  | f + 1, ms, last, ord, rest, at_, h => by
    rw [celF] at h
    have hfin : cycF lat ms ord rest.length [] rest at_ = .ok d → ∃ cl tail a, rest = cl.flatMap cellE ++ tail ∧ cycF lat (addAll ms cl) (ord && ordC last cl) tail.length [] tail a = .ok d ∧ ∀ e ∈ cl, e.1 < b ∧ wf e.2.1 ∧ wf e.2.2 := fun h => ⟨[], rest, at_, rfl, by simpa [addAll, ordC] using h, by simp⟩
    cases hc : cutT rest with
    | none => rw [hc] at h; exact hfin h
    | some q =>
      obtain ⟨line, r⟩ := q
      rw [hc] at h
      simp only at h
      split at h
      · split at h
        · rename_i m a x hn
          split at h
          · rename_i hm
            obtain ⟨cl, tail, at2, e, hf, hw⟩ := celF_ok h
            obtain ⟨e1, w1, -⟩ := numsT_inv hn
            obtain ⟨e2, -⟩ := cutT_spec hc
            refine ⟨(m, ((a : Int), (x : Int))) :: cl, tail, at2, ?_, ?_, fun y hy => ?_⟩
            · rw [e2, e1, e, List.flatMap_cons, List.append_assoc]
              exact (lineT_join wCell [decT (m : Int), decT (a : Int), decT (x : Int)] _).symm
            · rw [Bool.and_assoc] at hf
              exact hf
            · rcases List.mem_cons.1 hy with rfl | hy
              · have := w1 a (by simp)
                have := w1 x (by simp)
                unfold wf
                exact ⟨hm, ⟨by simp, by simp; omega⟩, ⟨by simp, by simp; omega⟩⟩
              · exact hw y hy
          · simp at h
        · simp at h
      · exact hfin h
theorem print_parse {s : List UInt8} {d : TrD} (h : parseT s = .ok d) : rightT d = true ∧ printT d = s ∧ ∀ m ∈ d.mems, ∀ p ∈ m, wf p.1 ∧ wf p.2 := by
  unfold parseT at h
  cases hc : cutT s with
  | none => rw [hc] at h; simp at h
  | some q =>
    obtain ⟨l1, r1⟩ := q
    rw [hc] at h
    simp only at h
    split at h
    · rename_i a b hn
      cases hc2 : cutT r1 with
      | none => rw [hc2] at h; simp at h
      | some q =>
        obtain ⟨l2, r2⟩ := q
        rw [hc2] at h
        simp only at h
        cases hb : boolsT wLat l2 with
        | none => rw [hb] at h; simp at h
        | some v =>
          rw [hb] at h
          simp only at h
          split at h
          · rename_i hv
            obtain ⟨cl, tail, at2, e, hf, hw⟩ := celF_ok h
            obtain ⟨ls, tail2, at3, e', hf'⟩ := cycF_ok hf
            obtain ⟨f1, f2, f3, f4, f5, f6⟩ := finT_ok hf'
            rw [Bool.true_and] at f2
            obtain ⟨s1, -⟩ := ordC_srt f2
            have hml : d.mems.length = b := by rw [f5, addAll_len, List.length_replicate]
            have hcells : cellsOf d.mems.length d.mems = cl := by rw [hml, f5]; exact cells_addAll s1 (fun e he => (hw e he).1)
            obtain ⟨e1, -, -⟩ := numsT_inv hn
            obtain ⟨e2, -⟩ := boolsT_inv hb
            obtain ⟨g1, -⟩ := cutT_spec hc
            obtain ⟨g2, -⟩ := cutT_spec hc2
            refine ⟨f3, ?_, fun m hm p hp => ?_⟩
            · unfold printT headT
              rw [← memsT_cells, hcells, f4, f6, hml, hv, List.nil_append, g1, e1, g2, e2, e, e', f1]
              simp only [List.append_assoc]
              rw [lineT_join, lineT_join]
              rfl
            · obtain ⟨i, hi, rfl⟩ := List.mem_iff_getElem.1 hm
              have : (i, p) ∈ cl := by
                rw [← hcells]
                unfold cellsOf
                refine List.mem_flatMap.2 ⟨i, List.mem_range.2 hi, List.mem_map.2 ⟨p, ?_, rfl⟩⟩
                rw [List.getD_eq_getElem?_getD, List.getElem?_eq_getElem hi]
                exact hp
              exact (hw _ this).2
          · simp at h
    · simp at h
end Go.Proofs.YtamgbfkpblpfiaaGreatDoor
/-
  Lines and words, plain: the library's Cut and Split are the plain ones.
-/
namespace Go.Proofs.YtamgbfkpblpfiaaGreatDoor
open Go
set_option linter.unusedVariables false
set_option linter.unusedSimpArgs false
theorem index_one (c : UInt8) : ∀ s : List UInt8, (Lib.index s [c] = -1 ∧ c ∉ s) ∨ ∃ a b, s = a ++ c :: b ∧ c ∉ a ∧ Lib.index s [c] = (a.length : Int)
  | [] => .inl ⟨rfl, by simp⟩
  | x :: s => by
    unfold Lib.index
    by_cases hx : x = c
    · subst hx
      right
      exact ⟨[], s, rfl, by simp, by simp [List.isPrefixOf]⟩
    · have hp : ([c] : List UInt8).isPrefixOf (x :: s) = false := by
        simp [List.isPrefixOf]
        exact fun e => hx e.symm
      rw [hp]
      rcases index_one c s with ⟨h1, h2⟩ | ⟨a, b, rfl, h2, h3⟩
      · left
        refine ⟨by simp [h1], ?_⟩
        rw [List.mem_cons]
        rintro (h | h)
        · exact hx h.symm
        · exact h2 h
      · right
        refine ⟨x :: a, b, rfl, ?_, ?_⟩
        · rw [List.mem_cons]
          rintro (h | h)
          · exact hx h.symm
          · exact h2 h
        · have : ¬ (Lib.index (a ++ c :: b) [c] == -1) = true := by rw [h3]; intro e; have := beq_iff_eq.1 e; omega
          rw [if_neg (by simp), if_neg this, h3]
          simp
theorem cut_cutT (l : List UInt8) : Lib.cut l [10] = match cutT l with | some (a, b) => (a, b, true) | none => (l, [], false) := by
  unfold Lib.cut
  rcases index_one 10 l with ⟨h1, h2⟩ | ⟨a, b, rfl, h2, h3⟩
  · rw [h1, if_neg (by omega), cutT_none.2 h2]
  · rw [h3, if_pos (by omega), cutT_mk b h2]
    simp
theorem splitK_words : ∀ (k : Nat) (s : List UInt8), s.count 32 ≤ k → Lib.splitK [32] 0 k s = wordsT s
  | 0, s, h => by
    have : (32 : UInt8) ∉ s := fun hm => by have := List.count_pos_iff.2 hm; omega
    rw [wordsT_one this]
    rfl
  | k + 1, s, h => by
    unfold Lib.splitK
    rcases index_one 32 s with ⟨h1, h2⟩ | ⟨a, b, rfl, h2, h3⟩
    · rw [h1, if_pos (by decide), wordsT_one h2]
    · have : ¬ (Lib.index (a ++ 32 :: b) [32] == -1) = true := by rw [h3]; intro e; have := beq_iff_eq.1 e; omega
      rw [if_neg this, h3, wordsT_app _ h2]
      have hc : b.count 32 ≤ k := by
        rw [List.count_append, List.count_cons_self] at h
        omega
      congr 1
      · simp
      · rw [← splitK_words k b hc]
        simp
theorem words_count : ∀ s : List UInt8, (wordsT s).length = s.count 32 + 1
  | [] => rfl
  | c :: s => by
    unfold wordsT
    have ih := words_count s
    by_cases h : c = 32
    · subst h
      rw [if_pos rfl, List.length_cons, ih, List.count_cons_self]
    · rw [if_neg h, List.count_cons_of_ne (fun e => h e)]
      cases hw : wordsT s with
      | nil => exact absurd hw (wordsT_ne s)
      | cons w ws => rw [hw] at ih; simpa using ih
theorem countFrom_one : ∀ (f : Nat) (s : List UInt8), s.length < f → Lib.countFrom [32] f s = s.count 32
  | 0, s, h => by omega
  | f + 1, s, h => by
    unfold Lib.countFrom
    rcases index_one 32 s with ⟨h1, h2⟩ | ⟨a, b, rfl, h2, h3⟩
    · rw [h1, if_pos (by decide), List.count_eq_zero.2 h2]
    · have : ¬ (Lib.index (a ++ 32 :: b) [32] == -1) = true := by rw [h3]; intro e; have := beq_iff_eq.1 e; omega
      have e : (a ++ 32 :: b).drop (((a.length : Nat) : Int).toNat + ([32] : List UInt8).length) = b := by simp
      rw [if_neg this, h3, e, countFrom_one f b (by simp at h; omega), List.count_append, List.count_cons_self, List.count_eq_zero.2 h2]
      omega
/-- What strings.Split leaves at a blank. -/
theorem splitB_words (s : ByteArray) : (Lib.splitB (bs [32]) 0 (Lib.countB s (bs [32])) s) = (wordsT s.data.toList).map bs ∧ Lib.countB s (bs [32]) + 1 = (wordsT s.data.toList).length := by
  have hc : Lib.countB s (bs [32]) = s.data.toList.count 32 := by
    unfold Lib.countB
    exact countFrom_one _ _ (Nat.lt_succ_self _)
  refine ⟨?_, by rw [hc, words_count]⟩
  have h := Lib.splitB_data (bs [32]) 0 (Lib.countB s (bs [32])) s
  rw [hc] at h ⊢
  have h2 : Lib.splitK (bs [32]).data.toList 0 (s.data.toList.count 32) s.data.toList = wordsT s.data.toList := splitK_words _ _ (Nat.le_refl _)
  rw [h2] at h
  rw [← h, List.map_map]
  symm
  refine (List.map_congr_left fun x _ => ?_).trans (List.map_id _)
  obtain ⟨⟨d⟩⟩ := x
  rfl
end Go.Proofs.YtamgbfkpblpfiaaGreatDoor
