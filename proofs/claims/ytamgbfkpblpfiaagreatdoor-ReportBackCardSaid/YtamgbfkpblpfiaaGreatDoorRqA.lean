/-
  Reports' texts, plainly: what is parsed, there and back.
-/
import Derived.Test.YtamgbfkpblpfiaaGreatDoorTpA
import Derived.Test.YtamgbfkpblpfiaaGreatDoorRpE
namespace Go.Proofs.YtamgbfkpblpfiaaGreatDoor
set_option linter.unusedVariables false
set_option linter.unusedSimpArgs false
abbrev wVer : List UInt8 := [118, 101, 114, 100, 105, 99, 116]
abbrev wDep : List UInt8 := [100, 101, 112, 116, 104]
abbrev wFau : List UInt8 := [102, 97, 117, 108, 116]
abbrev wCal : List UInt8 := [99, 97, 108, 108, 115]
abbrev wSpe : List UInt8 := [115, 112, 101, 110, 116]
abbrev wPor : List UInt8 := [112, 111, 114, 116, 115]
abbrev wYes : List UInt8 := [121, 101, 115]
abbrev wNo : List UInt8 := [110, 111]
abbrev great : Nat := 1099511627776
/-- What is told of a text: which line is none; what is wrong; the report. -/
inductive RRes where
  | bad (n : Nat) | ill | ok (d : RpD)
/-- A line's words behind its first one: so many, or (none) one or more. -/
def lineR (word : List UInt8) (many : Option Nat) (rest : List UInt8) : Option (List (List UInt8) × List UInt8) := match cutT rest with
  | some (line, r) => (match wordsT line with
    | w :: ws => if w = word ∧ ws ≠ [] ∧ (∀ m ∈ many, ws.length = m) then some (ws, r) else none
    | [] => none)
  | none => none
/-- A word's number, at most so great. -/
def numM (most : Nat) (w : List UInt8) : Option Nat := match numU w with
  | some n => if n ≤ most then some n else none
  | none => none
/-- The place of a word in a list. -/
def idxL (x : List UInt8) : List (List UInt8) → Option Nat
  | [] => none
  | y :: ys => if y = x then some 0 else (idxL x ys).map (· + 1)
/-- The numbers of ports. -/
def numsM (most : Nat) : List (List UInt8) → Option (List Int)
  | [] => some []
  | w :: ws => match numM most w with
    | some n => (match numsM most ws with | some l => some ((n : Int) :: l) | none => none)
    | none => none
def portsW (ws : List (List UInt8)) : Option (List Int) := if ws = [[45]] then some [] else numsM 63 ws
/-- The k-th of the first six lines. -/
def rdL (k : Nat) (d : RpD) (s : List UInt8) : Option (RpD × List UInt8) := match k with
  | 0 => (match lineR wVer (some 1) s with
    | some (ws, r) => (match idxL (ws.getD 0 []) wordsL with | some i => some ({ d with verdict := (i : Int) }, r) | none => none)
    | none => none)
  | 1 => (match lineR wDep (some 1) s with
    | some (ws, r) => (match numM great (ws.getD 0 []) with | some n => some ({ d with depth := (n : Int) }, r) | none => none)
    | none => none)
  | 2 => (match lineR wFau (some 2) s with
    | some (ws, r) => (match idxL (ws.getD 0 []) namesL with
      | some i => (match numM great (ws.getD 1 []) with | some n => some ({ d with fault := (i : Int), place := (n : Int) }, r) | none => none)
      | none => none)
    | none => none)
  | 3 => (match lineR wCal (some 2) s with
    | some (ws, r) => (match numM great (ws.getD 0 []) with
      | some a => (match numM great (ws.getD 1 []) with | some b => some ({ d with calls := (a : Int), conf := (b : Int) }, r) | none => none)
      | none => none)
    | none => none)
  | 4 => (match lineR wSpe (some 1) s with
    | some (ws, r) => if ws.getD 0 [] = wYes then some ({ d with spent := true }, r) else if ws.getD 0 [] = wNo then some (d, r) else none
    | none => none)
  | _ => (match lineR wPor none s with
    | some (ws, r) => (match portsW ws with | some l => some ({ d with ports := l }, r) | none => none)
    | none => none)
def finR (d : RpD) : RRes := if rightR d then .ok d else .ill
/-- Behind the first six lines. -/
def endR (d : RpD) (s : List UInt8) : RRes :=
  if d.verdict = 2 then (match parseT s with
    | .bad n => .bad (n + 6)
    | .ill => .ill
    | .ok t => finR { d with tr := t })
  else if s = [] then finR d else .bad 7
/-- From the k-th line on. -/
def runR : Nat → Nat → RpD → List UInt8 → RRes
  | 0, _, d, s => endR d s
  | n + 1, k, d, s => match rdL k d s with
    | some (d', s') => runR n (k + 1) d' s'
    | none => .bad (k + 1)
def rpZ : RpD := ⟨0, 0, 0, 0, tr0, 0, 0, false, []⟩
def parseR (s : List UInt8) : RRes := runR 6 0 rpZ s
/-! ### there -/
theorem lineR_mk {word : List UInt8} {ws : List (List UInt8)} {many : Option Nat} (s : List UInt8) (hw : Clean word) (hs : ∀ x ∈ ws, Clean x) (hn : ws ≠ []) (hm : ∀ m ∈ many, ws.length = m) : lineR word many (lineT word ws ++ s) = some (ws, s) := by
  obtain ⟨h1, h2⟩ := cut_line s hw hs
  unfold lineR
  rw [h1]
  simp only [h2]
  rw [if_pos ⟨trivial, hn, hm⟩]
theorem numM_dec {most : Nat} {x : Int} (h0 : 0 ≤ x) (h1 : x ≤ most) (hm : most ≤ 18446744073709551615) : numM most (decT x) = some x.toNat := by
  unfold numM decT
  rw [num_dec _ (by omega)]
  simp only
  rw [if_pos (by omega)]
theorem idx_words : ∀ k, k < 4 → idxL (wordsL.getD k []) wordsL = some k := by decide
theorem idx_names : ∀ k, k < 18 → idxL (namesL.getD k []) namesL = some k := by decide
theorem words_clean : ∀ x ∈ wordsL, Clean x := by unfold Clean; decide
theorem names_clean : ∀ x ∈ namesL, Clean x := by unfold Clean; decide
theorem verdict_in {v : Int} (h : wordV v ≠ []) : ∃ k : Nat, k < 4 ∧ v = (k : Int) := by
  refine ⟨v.toNat, ?_, ?_⟩
  · exact Classical.byContradiction fun hn => h (wordV_out (by omega))
  · exact Classical.byContradiction fun hn => h (wordV_out (by omega))
theorem fault_in {v : Int} (h : nameV v ≠ []) : ∃ k : Nat, k < 18 ∧ v = (k : Int) := by
  refine ⟨v.toNat, ?_, ?_⟩
  · exact Classical.byContradiction fun hn => h (nameV_out (by omega))
  · exact Classical.byContradiction fun hn => h (nameV_out (by omega))
theorem getD_memL {l : List (List UInt8)} {k : Nat} (h : k < l.length) : l.getD k [] ∈ l := by
  rw [List.getD_eq_getElem?_getD, List.getElem?_eq_getElem h]
  exact List.getElem_mem h
theorem spT_clean (b : Bool) : Clean (spT b) := by cases b <;> exact ⟨by decide, by decide⟩
theorem numsM_dec : ∀ {ps : List Int}, (∀ x ∈ ps, 0 ≤ x ∧ x ≤ 63) → numsM 63 (ps.map decT) = some ps
  | [], _ => rfl
  | x :: ps, h => by
    obtain ⟨h0, h1⟩ := h x (List.mem_cons_self ..)
    rw [List.map_cons, numsM, numM_dec h0 (by omega) (by omega)]
    simp only
    rw [numsM_dec (fun y hy => h y (List.mem_cons_of_mem _ hy))]
    simp only
    rw [Int.toNat_of_nonneg h0]
theorem dec_dash (x : Int) : decT x ≠ [45] := fun e => by
  have h1 := dec_digit x.toNat 45 (by unfold decT at e; rw [e]; simp)
  exact absurd h1.1 (by decide)
theorem portsW_pW {ps : List Int} (h : ∀ x ∈ ps, 0 ≤ x ∧ x ≤ 63) : portsW (pW ps) = some ps := by
  unfold portsW pW
  by_cases h0 : ps = []
  · subst h0; simp
  · rw [if_neg h0, if_neg, numsM_dec h]
    intro e
    match ps, h0, e with
    | [x], _, e => exact dec_dash x (by simpa using e)
    | x :: y :: r, _, e => simp at e
theorem pW_ne (ps : List Int) : pW ps ≠ [] := by
  unfold pW
  split
  · simp
  · rename_i h
    simpa using h
theorem pW_clean (ps : List Int) : ∀ x ∈ pW ps, Clean x := by
  unfold pW
  split
  · intro x hx
    rw [List.mem_singleton.1 hx]
    exact ⟨by decide, by decide⟩
  · intro x hx
    obtain ⟨y, -, rfl⟩ := List.mem_map.1 hx
    exact decT_clean y
theorem getD_all {ps : List Int} {P : Int → Prop} (h : ∀ j, j < ps.length → P (ps.getD j 0)) : ∀ x ∈ ps, P x := fun x hx => by
  obtain ⟨k, hk, rfl⟩ := List.mem_iff_getElem.1 hx
  have := h k hk
  rwa [List.getD_eq_getElem?_getD, List.getElem?_eq_getElem hk] at this
theorem rightR_out {d : RpD} (h : rightR d = true) : wordV d.verdict ≠ [] ∧ nameV d.fault ≠ [] ∧ (d.verdict = 2 ∨ sameT d.tr tr0 = true) := by
  unfold rightR oneR lastR at h
  simp only [Bool.and_eq_true, decide_eq_true_eq, Bool.or_eq_true, beq_iff_eq] at h
  obtain ⟨⟨⟨⟨⟨⟨h1, h2⟩, _⟩, _⟩, _⟩, _⟩, h3⟩ := h
  exact ⟨h1, h2, h3⟩
theorem tr0_of {d : TrD} (h : sameT d tr0 = true) : d = tr0 := by
  unfold sameT tr0 at h
  unfold tr0
  obtain ⟨a, b, c, e⟩ := d
  simp at h
  simp [h]
/-- A report that is right is parsed as it was. -/
theorem parse_rp {d : RpD} (hr : rightR d = true) (hw : ∀ m ∈ d.tr.mems, ∀ p ∈ m, wf p.1 ∧ wf p.2) : parseR (rpT d) = .ok d := by
  obtain ⟨h1, h2, h3⟩ := rightR_out hr
  obtain ⟨q1, ⟨q2, q2'⟩, ⟨q3, q3'⟩, ⟨q4, q4'⟩, ⟨q5, q5'⟩, q6, q7⟩ := rightR_parts hr
  have q8 := getD_all (P := fun x => 0 ≤ x ∧ x < 64) q7
  obtain ⟨kv, hkv, ev⟩ := verdict_in h1
  obtain ⟨kf, hkf, ef⟩ := fault_in h2
  obtain ⟨T, hT⟩ : ∃ T, T = (if d.verdict = 2 then printT d.tr else []) := ⟨_, rfl⟩
  have hfin : ∀ d' : RpD, d'.verdict = d.verdict → { d' with tr := d.tr } = d → (d'.tr = tr0) → endR d' T = .ok d := fun d' e1 e2 e3 => by
    unfold endR
    by_cases hv : d.verdict = 2
    · rw [if_pos (e1.trans hv), hT, if_pos hv, parse_print q1 hw]
      simp only
      rw [e2]
      unfold finR
      rw [if_pos hr]
    · rw [if_neg (fun e => hv (e1.symm.trans e)), hT, if_neg hv, if_pos rfl]
      have ht := tr0_of (h3.resolve_left hv)
      have : d' = d := by rw [← e2, ht, ← e3]
      rw [this]
      unfold finR
      rw [if_pos hr]
  unfold rpT
  rw [← hT]
  unfold parseR rpZ
  simp only [List.append_assoc]
  have c0 : Clean wVer := ⟨by decide, by decide⟩
  have c1 : Clean wDep := ⟨by decide, by decide⟩
  have c2 : Clean wFau := ⟨by decide, by decide⟩
  have c3 : Clean wCal := ⟨by decide, by decide⟩
  have c4 : Clean wSpe := ⟨by decide, by decide⟩
  have c5 : Clean wPor := ⟨by decide, by decide⟩
  have cv : Clean (wordV d.verdict) := by rw [ev, wordV_in hkv]; exact words_clean _ (getD_memL hkv)
  have cf : Clean (nameV d.fault) := by rw [ef, nameV_in hkf]; exact names_clean _ (getD_memL hkf)
  have iv : idxL (wordV d.verdict) wordsL = some kv := by rw [ev, wordV_in hkv]; exact idx_words kv hkv
  have if' : idxL (nameV d.fault) namesL = some kf := by rw [ef, nameV_in hkf]; exact idx_names kf hkf
  rw [runR]
  simp only [rdL]
  rw [lineR_mk _ c0 (by simpa using cv) (by simp) (by simp)]
  simp only [List.getD_cons_zero, iv]
  rw [runR]
  simp only [rdL]
  rw [lineR_mk _ c1 (by simpa using decT_clean _) (by simp) (by simp)]
  simp only [List.getD_cons_zero, numM_dec q2 q2' (by decide)]
  rw [runR]
  simp only [rdL]
  rw [lineR_mk _ c2 (fun x hx => by rcases List.mem_cons.1 hx with rfl | hx; exact cf; rw [List.mem_singleton.1 hx]; exact decT_clean _) (by simp) (by simp)]
  simp only [List.getD_cons_zero, List.getD_cons_succ, if', numM_dec q3 q3' (by decide)]
  rw [runR]
  simp only [rdL]
  rw [lineR_mk _ c3 (fun x hx => by rcases List.mem_cons.1 hx with rfl | hx; exact decT_clean _; rw [List.mem_singleton.1 hx]; exact decT_clean _) (by simp) (by simp)]
  simp only [List.getD_cons_zero, List.getD_cons_succ, numM_dec q4 q4' (by decide), numM_dec q5 q5' (by decide)]
  rw [runR]
  simp only [rdL]
  rw [lineR_mk _ c4 (by simpa using spT_clean _) (by simp) (by simp)]
  have hsp : ∀ (e : RpD) (r : List UInt8), e.spent = false → (if spT d.spent = wYes then some (({ e with spent := true } : RpD), r) else if spT d.spent = wNo then some (e, r) else none) = some ({ e with spent := d.spent }, r) := fun e r he => by
    cases hd : d.spent with
    | true => exact if_pos (by decide)
    | false => rw [if_neg (by decide), if_pos (by decide)]; cases e; simp only at he; subst he; rfl
  simp only [List.getD_cons_zero]
  rw [hsp ⟨kv, (d.depth.toNat : Nat), kf, (d.place.toNat : Nat), tr0, (d.calls.toNat : Nat), (d.conf.toNat : Nat), false, []⟩ _ rfl]
  simp only
  rw [runR]
  simp only [rdL]
  rw [lineR_mk _ c5 (pW_clean _) (pW_ne _) (by simp)]
  simp only [portsW_pW (fun x hx => (by have := q8 x hx; omega : 0 ≤ x ∧ x ≤ 63))]
  rw [runR]
  refine hfin _ ?_ ?_ rfl
  · simp only; rw [ev]
  · simp only [Int.toNat_of_nonneg q2, Int.toNat_of_nonneg q3, Int.toNat_of_nonneg q4, Int.toNat_of_nonneg q5]
    rw [← ev, ← ef]
/-! ### back -/
theorem lineR_inv {word : List UInt8} {many : Option Nat} {s r : List UInt8} {ws : List (List UInt8)} (h : lineR word many s = some (ws, r)) : s = lineT word ws ++ r ∧ ws ≠ [] ∧ ∀ m ∈ many, ws.length = m := by
  unfold lineR at h
  cases hc : cutT s with
  | none => rw [hc] at h; cases h
  | some q =>
    obtain ⟨line, r0⟩ := q
    rw [hc] at h
    simp only at h
    cases hw : wordsT line with
    | nil => rw [hw] at h; cases h
    | cons w ws0 =>
      rw [hw] at h
      simp only at h
      split at h
      · rename_i hh
        obtain ⟨rfl, h2, h3⟩ := hh
        injection h with h
        injection h with e1 e2
        subst e1 e2
        obtain ⟨e, -, -⟩ := joinT_words hw
        obtain ⟨e4, -⟩ := cutT_spec hc
        refine ⟨?_, h2, h3⟩
        rw [e4, e, lineT_join]
      · cases h
theorem numM_inv {most : Nat} {w : List UInt8} {n : Nat} (h : numM most w = some n) : w = decT (n : Int) ∧ n ≤ most := by
  unfold numM at h
  cases hn : numU w with
  | none => rw [hn] at h; cases h
  | some k =>
    rw [hn] at h
    simp only at h
    split at h
    · injection h with h
      subst h
      exact ⟨by rw [decT_nat]; exact (dec_num hn).1.symm, by assumption⟩
    · cases h
theorem idx_inv : ∀ {x : List UInt8} {ls : List (List UInt8)} {k : Nat}, idxL x ls = some k → k < ls.length ∧ ls.getD k [] = x
  | x, [], k, h => by cases h
  | x, y :: ys, k, h => by
    unfold idxL at h
    split at h
    · injection h with h
      subst h
      exact ⟨by simp, by simpa⟩
    · cases hi : idxL x ys with
      | none => rw [hi] at h; cases h
      | some j =>
        rw [hi] at h
        simp at h
        subst h
        obtain ⟨h1, h2⟩ := idx_inv hi
        exact ⟨by simp; omega, by simpa using h2⟩
theorem one_of {ws : List (List UInt8)} (h : ∀ m ∈ some 1, ws.length = m) : ws = [ws.getD 0 []] := by
  have := h 1 rfl
  match ws, this with
  | [a], _ => rfl
theorem two_of {ws : List (List UInt8)} (h : ∀ m ∈ some 2, ws.length = m) : ws = [ws.getD 0 [], ws.getD 1 []] := by
  have := h 2 rfl
  match ws, this with
  | [a, b], _ => rfl
theorem numsM_inv : ∀ {ws : List (List UInt8)} {l : List Int}, numsM 63 ws = some l → ws = l.map decT ∧ ∀ x ∈ l, 0 ≤ x ∧ x ≤ 63
  | [], l, h => by
    injection h with h
    subst h
    simp
  | w :: ws, l, h => by
    unfold numsM at h
    cases hn : numM 63 w with
    | none => rw [hn] at h; cases h
    | some n =>
      rw [hn] at h
      simp only at h
      cases hl : numsM 63 ws with
      | none => rw [hl] at h; cases h
      | some l0 =>
        rw [hl] at h
        injection h with h
        subst h
        obtain ⟨e1, e2⟩ := numM_inv hn
        obtain ⟨e3, e4⟩ := numsM_inv hl
        refine ⟨by rw [List.map_cons, ← e1, ← e3], fun x hx => ?_⟩
        rcases List.mem_cons.1 hx with rfl | hx
        · omega
        · exact e4 x hx
theorem portsW_inv {ws : List (List UInt8)} {l : List Int} (hn : ws ≠ []) (h : portsW ws = some l) : ws = pW l := by
  unfold portsW at h
  split at h
  · rename_i e
    injection h with h
    subst h
    rw [e]; rfl
  · obtain ⟨e1, -⟩ := numsM_inv h
    unfold pW
    rw [if_neg (fun e => hn (by rw [e1, e]; rfl)), e1]
/-- The text of the k-th line. -/
def lnT (k : Nat) (d : RpD) : List UInt8 := match k with
  | 0 => lineT wVer [wordV d.verdict]
  | 1 => lineT wDep [decT d.depth]
  | 2 => lineT wFau [nameV d.fault, decT d.place]
  | 3 => lineT wCal [decT d.calls, decT d.conf]
  | 4 => lineT wSpe [spT d.spent]
  | _ => lineT wPor (pW d.ports)
/-- What lines behind the k-th one do not turn. -/
def SameTo (k : Nat) (d e : RpD) : Prop := ∀ j, j ≤ k → lnT j d = lnT j e
theorem rdL_inv {k : Nat} (hk : k ≤ 5) {d d' : RpD} {s r : List UInt8} (hs : k ≤ 4 → d.spent = false) (h : rdL k d s = some (d', r)) : s = lnT k d' ++ r ∧ (∀ j, j < k → lnT j d' = lnT j d) ∧ d'.tr = d.tr ∧ (k ≤ 3 → d'.spent = d.spent) := by
  match k, hk with
  | 0, _ =>
    simp only [rdL] at h
    cases hl : lineR wVer (some 1) s with
    | none => rw [hl] at h; cases h
    | some q =>
      obtain ⟨ws, r0⟩ := q
      rw [hl] at h
      simp only at h
      obtain ⟨e1, -, e2⟩ := lineR_inv hl
      cases hi : idxL (ws.getD 0 []) wordsL with
      | none => rw [hi] at h; cases h
      | some i =>
        rw [hi] at h
        injection h with h
        injection h with h1 h2
        subst h1 h2
        obtain ⟨i1, i2⟩ := idx_inv hi
        refine ⟨?_, fun j hj => by omega, rfl, fun _ => rfl⟩
        show s = lineT wVer [wordV (i : Int)] ++ r0
        rw [wordV_in i1, i2, ← one_of e2]
        exact e1
  | 1, _ =>
    simp only [rdL] at h
    cases hl : lineR wDep (some 1) s with
    | none => rw [hl] at h; cases h
    | some q =>
      obtain ⟨ws, r0⟩ := q
      rw [hl] at h
      simp only at h
      obtain ⟨e1, -, e2⟩ := lineR_inv hl
      cases hi : numM great (ws.getD 0 []) with
      | none => rw [hi] at h; cases h
      | some i =>
        rw [hi] at h
        injection h with h
        injection h with h1 h2
        subst h1 h2
        obtain ⟨i1, -⟩ := numM_inv hi
        refine ⟨?_, fun j hj => by (match j, hj with | 0, _ => rfl), rfl, fun _ => rfl⟩
        show s = lineT wDep [decT (i : Int)] ++ r0
        rw [← i1, ← one_of e2]
        exact e1
  | 2, _ =>
    simp only [rdL] at h
    cases hl : lineR wFau (some 2) s with
    | none => rw [hl] at h; cases h
    | some q =>
      obtain ⟨ws, r0⟩ := q
      rw [hl] at h
      simp only at h
      obtain ⟨e1, -, e2⟩ := lineR_inv hl
      cases hi : idxL (ws.getD 0 []) namesL with
      | none => rw [hi] at h; cases h
      | some i =>
        rw [hi] at h
        simp only at h
        cases hj : numM great (ws.getD 1 []) with
        | none => rw [hj] at h; cases h
        | some n =>
          rw [hj] at h
          injection h with h
          injection h with h1 h2
          subst h1 h2
          obtain ⟨i1, i2⟩ := idx_inv hi
          obtain ⟨j1, -⟩ := numM_inv hj
          refine ⟨?_, fun j hj => by (match j, hj with | 0, _ => rfl | 1, _ => rfl), rfl, fun _ => rfl⟩
          show s = lineT wFau [nameV (i : Int), decT (n : Int)] ++ r0
          rw [nameV_in i1, i2, ← j1, ← two_of e2]
          exact e1
  | 3, _ =>
    simp only [rdL] at h
    cases hl : lineR wCal (some 2) s with
    | none => rw [hl] at h; cases h
    | some q =>
      obtain ⟨ws, r0⟩ := q
      rw [hl] at h
      simp only at h
      obtain ⟨e1, -, e2⟩ := lineR_inv hl
      cases hi : numM great (ws.getD 0 []) with
      | none => rw [hi] at h; cases h
      | some i =>
        rw [hi] at h
        simp only at h
        cases hj : numM great (ws.getD 1 []) with
        | none => rw [hj] at h; cases h
        | some n =>
          rw [hj] at h
          injection h with h
          injection h with h1 h2
          subst h1 h2
          obtain ⟨i1, -⟩ := numM_inv hi
          obtain ⟨j1, -⟩ := numM_inv hj
          refine ⟨?_, fun j hj => by (match j, hj with | 0, _ => rfl | 1, _ => rfl | 2, _ => rfl), rfl, fun _ => rfl⟩
          show s = lineT wCal [decT (i : Int), decT (n : Int)] ++ r0
          rw [← i1, ← j1, ← two_of e2]
          exact e1
  | 4, _ =>
    simp only [rdL] at h
    cases hl : lineR wSpe (some 1) s with
    | none => rw [hl] at h; cases h
    | some q =>
      obtain ⟨ws, r0⟩ := q
      rw [hl] at h
      simp only at h
      obtain ⟨e1, -, e2⟩ := lineR_inv hl
      have e3 := one_of e2
      split at h
      · rename_i hy
        injection h with h
        injection h with h1 h2
        subst h1 h2
        refine ⟨?_, fun j hj => by (match j, hj with | 0, _ => rfl | 1, _ => rfl | 2, _ => rfl | 3, _ => rfl), rfl, fun h => by omega⟩
        show s = lineT wSpe [spT true] ++ r0
        rw [e3, hy] at e1
        exact e1
      · split at h
        · rename_i hy
          injection h with h
          injection h with h1 h2
          subst h1 h2
          refine ⟨?_, fun j hj => rfl, rfl, fun h => rfl⟩
          show s = lineT wSpe [spT d.spent] ++ r0
          rw [hs (by omega)]
          rw [e3, hy] at e1
          exact e1
        · cases h
  | 5, _ =>
    simp only [rdL] at h
    cases hl : lineR wPor none s with
    | none => rw [hl] at h; cases h
    | some q =>
      obtain ⟨ws, r0⟩ := q
      rw [hl] at h
      simp only at h
      obtain ⟨e1, e2, -⟩ := lineR_inv hl
      cases hi : portsW ws with
      | none => rw [hi] at h; cases h
      | some l =>
        rw [hi] at h
        injection h with h
        injection h with h1 h2
        subst h1 h2
        have e3 := portsW_inv e2 hi
        refine ⟨?_, fun j hj => by (match j, hj with | 0, _ => rfl | 1, _ => rfl | 2, _ => rfl | 3, _ => rfl | 4, _ => rfl), rfl, fun h => by omega⟩
        show s = lineT wPor (pW l) ++ r0
        rw [← e3]
        exact e1
/-- The first k lines. -/
def linesR (d : RpD) (k : Nat) : List UInt8 := (List.range k).flatMap fun j => lnT j d
theorem linesR_succ (d : RpD) (k : Nat) : linesR d (k + 1) = linesR d k ++ lnT k d := by
  unfold linesR
  rw [List.range_succ, List.flatMap_append]
  simp
theorem linesR_congr {d e : RpD} {k : Nat} (h : ∀ j, j < k → lnT j d = lnT j e) : linesR d k = linesR e k := by
  unfold linesR
  simp only [List.flatMap]
  congr 1
  exact List.map_congr_left fun j hj => h j (List.mem_range.1 hj)
theorem endR_ok {d e : RpD} {s : List UInt8} (ht : d.tr = tr0) (h : endR d s = .ok e) : rightR e = true ∧ (∀ j, lnT j e = lnT j d) ∧ s = (if e.verdict = 2 then printT e.tr else []) ∧ ∀ m ∈ e.tr.mems, ∀ p ∈ m, wf p.1 ∧ wf p.2 := by
  unfold endR at h
  split at h
  · rename_i hv
    cases hp : parseT s with
    | bad n => rw [hp] at h; cases h
    | ill => rw [hp] at h; cases h
    | ok t =>
      rw [hp] at h
      simp only [finR] at h
      split at h
      · rename_i hr
        injection h with h
        subst h
        obtain ⟨-, p2, p3⟩ := print_parse hp
        refine ⟨hr, fun j => rfl, ?_, p3⟩
        show s = if d.verdict = 2 then printT t else []
        rw [if_pos hv, p2]
      · cases h
  · rename_i hv
    split at h
    · rename_i hs
      unfold finR at h
      split at h
      · rename_i hr
        injection h with h
        subst h
        refine ⟨hr, fun j => rfl, ?_, ?_⟩
        · rw [if_neg hv]; exact hs
        · rw [ht]; intro m hm; cases hm
      · cases h
    · cases h
theorem runR_ok : ∀ {n k : Nat} {d e : RpD} {s : List UInt8}, n + k = 6 → d.tr = tr0 → (k ≤ 4 → d.spent = false) → runR n k d s = .ok e → rightR e = true ∧ (∀ j, j < k → lnT j e = lnT j d) ∧ linesR e k ++ s = rpT e ∧ ∀ m ∈ e.tr.mems, ∀ p ∈ m, wf p.1 ∧ wf p.2
  | 0, k, d, e, s, hk, ht, hs, h => by
    obtain ⟨h1, h2, h3, h4⟩ := endR_ok ht h
    refine ⟨h1, fun j _ => h2 j, ?_, h4⟩
    obtain rfl : k = 6 := by omega
    rw [h3]
    unfold rpT linesR
    simp [List.range_succ, lnT]
  | n + 1, k, d, e, s, hk, ht, hs, h => by
    rw [runR] at h
    cases hr : rdL k d s with
    | none => rw [hr] at h; cases h
    | some q =>
      obtain ⟨d', s'⟩ := q
      rw [hr] at h
      simp only at h
      obtain ⟨e1, e2, e3, e4⟩ := rdL_inv (by omega) hs hr
      obtain ⟨r1, r2, r3, r4⟩ := runR_ok (by omega) (e3.trans ht) (fun hk => (e4 (by omega)).trans (hs (by omega))) h
      refine ⟨r1, fun j hj => (r2 j (by omega)).trans (e2 j hj), ?_, r4⟩
      rw [← r3, linesR_succ, e1, r2 k (by omega)]
      simp
/-- What is parsed has just that text. -/
theorem rp_parse {s : List UInt8} {d : RpD} (h : parseR s = .ok d) : rightR d = true ∧ rpT d = s ∧ ∀ m ∈ d.tr.mems, ∀ p ∈ m, wf p.1 ∧ wf p.2 := by
  obtain ⟨h1, -, h2, h3⟩ := runR_ok (by rfl) rfl (fun _ => rfl) h
  exact ⟨h1, by rw [← h2]; simp [linesR], h3⟩
end Go.Proofs.YtamgbfkpblpfiaaGreatDoor
