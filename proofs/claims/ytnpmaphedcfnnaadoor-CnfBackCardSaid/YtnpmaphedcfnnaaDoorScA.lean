/-
  A reader of bytes, plain: texts that must come, numbers; a formula's text.
-/
import Derived.Test.YtnpmaphedcfnnaaDoorRows
import Derived.Test.YtnpmaphedcfnnaaDoorFoot
import Derived.Deep.QuietTactic
import Derived.BigQuiet
import Derived.IntWalk
import Derived.WalkMore
namespace Go.Proofs.YtnpmaphedcfnnaaDoor
set_option linter.unusedVariables false
/-- A text that must come at k, from its byte i on: what is wrong, and where. -/
def wantG (t l : List UInt8) (k : Nat) : Nat → Nat → Option (Nat × Nat)
  | 0, _ => none
  | n + 1, i => if l.length ≤ k + i then some (12, k + i) else if l.getD (k + i) 0 = t.getD i 0 then wantG t l k n (i + 1) else some (2, k + i)
def wantF (t l : List UInt8) (k : Nat) : Option (Nat × Nat) := wantG t l k t.length 0
def isDig (c : UInt8) : Prop := 48 ≤ c.toNat ∧ c.toNat ≤ 57
instance (c : UInt8) : Decidable (isDig c) := inferInstanceAs (Decidable (_ ∧ _))
/-- Where digits end, from i on. -/
def endG (l : List UInt8) : Nat → Nat → Nat
  | 0, i => i
  | n + 1, i => if isDig (l.getD i 0) then endG l n (i + 1) else i
def endF (l : List UInt8) (k : Nat) : Nat := endG l (l.length - k) k
/-- The number of digits, from i on. -/
def valG (most : Nat) (l : List UInt8) : Nat → Nat → Nat → Option Nat
  | 0, _, n => some n
  | f + 1, i, n => if most < (l.getD i 0).toNat - 48 ∨ (most - ((l.getD i 0).toNat - 48)) / 10 < n then none else valG most l f (i + 1) (n * 10 + ((l.getD i 0).toNat - 48))
/-- A number at k: what is wrong, or the number and its end. -/
def numF (most : Nat) (l : List UInt8) (k : Nat) : Except Nat (Nat × Nat) :=
  if l.length ≤ k then .error 12
  else if ¬ isDig (l.getD k 0) then .error 2
  else if l.getD k 0 = 48 ∧ k + 1 < endF l k then .error 4
  else match valG most l (endF l k - k) k 0 with
    | none => .error 4
    | some n => .ok (n, endF l k)
theorem endG_ge (l : List UInt8) : ∀ n i, i ≤ endG l n i ∧ endG l n i ≤ i + n
  | 0, i => ⟨Nat.le_refl _, by simp [endG]⟩
  | n + 1, i => by
    unfold endG
    split
    · have := endG_ge l n (i + 1); omega
    · omega
theorem endF_le (l : List UInt8) {k : Nat} (h : k ≤ l.length) : k ≤ endF l k ∧ endF l k ≤ l.length := by
  have := endG_ge l (l.length - k) k
  unfold endF
  omega
theorem endF_lt (l : List UInt8) {k : Nat} (h : k < l.length) (hd : isDig (l.getD k 0)) : k < endF l k := by
  unfold endF
  obtain ⟨n, hn⟩ : ∃ n, l.length - k = n + 1 := ⟨l.length - k - 1, by omega⟩
  rw [hn]
  unfold endG
  rw [if_pos hd]
  have := endG_ge l n (k + 1)
  omega
theorem endF_eq (l : List UInt8) {k : Nat} (h : k < l.length) (hd : ¬ isDig (l.getD k 0)) : endF l k = k := by
  unfold endF
  obtain ⟨n, hn⟩ : ∃ n, l.length - k = n + 1 := ⟨l.length - k - 1, by omega⟩
  rw [hn]
  unfold endG
  rw [if_neg hd]
/-- Between k and the end all are digits. -/
theorem endG_dig (l : List UInt8) : ∀ n i j, i ≤ j → j < endG l n i → isDig (l.getD j 0)
  | 0, i, j, h1, h2 => by simp [endG] at h2; omega
  | n + 1, i, j, h1, h2 => by
    unfold endG at h2
    split at h2
    · rename_i hd
      by_cases e : i = j
      · exact e ▸ hd
      · exact endG_dig l n (i + 1) j (by omega) h2
    · omega
theorem valG_le (most : Nat) (l : List UInt8) : ∀ f i n m, n ≤ most → valG most l f i n = some m → m ≤ most
  | 0, i, n, m, h, e => by simp [valG] at e; omega
  | f + 1, i, n, m, h, e => by
    unfold valG at e
    split at e
    · simp at e
    · rename_i hc
      refine valG_le most l f (i + 1) _ m ?_ e
      omega
theorem numF_ok {most : Nat} {l : List UInt8} {k n e : Nat} (h : numF most l k = .ok (n, e)) : n ≤ most ∧ k < e ∧ e ≤ l.length := by
  unfold numF at h
  split at h
  · simp at h
  · rename_i hk
    split at h
    · simp at h
    · rename_i hd
      split at h
      · simp at h
      · cases hv : valG most l (endF l k - k) k 0 with
        | none => rw [hv] at h; simp at h
        | some m =>
          rw [hv] at h
          simp at h
          obtain ⟨rfl, rfl⟩ := h
          exact ⟨valG_le most l _ _ _ _ (by omega) hv, endF_lt l (by omega) (Decidable.not_not.1 hd), (endF_le l (by omega)).2⟩
theorem numF_err {most : Nat} {l : List UInt8} {k f : Nat} (h : numF most l k = .error f) : 0 < f ∧ f < 13 := by
  unfold numF at h
  split at h
  · simp at h; omega
  · split at h
    · simp at h; omega
    · split at h
      · simp at h; omega
      · split at h
        · simp at h; omega
        · simp at h
theorem wantG_err {t l : List UInt8} {k : Nat} : ∀ {n i f at_ : Nat}, wantG t l k n i = some (f, at_) → 0 < f ∧ f < 13
  | 0, i, f, at_, h => by simp [wantG] at h
  | n + 1, i, f, at_, h => by
    unfold wantG at h
    split at h
    · simp at h; omega
    · split at h
      · exact wantG_err h
      · simp at h; omega
theorem wantG_ok {t l : List UInt8} {k : Nat} : ∀ {n i : Nat}, wantG t l k n i = none → n = 0 ∨ k + i + n ≤ l.length
  | 0, i, h => .inl rfl
  | n + 1, i, h => by
    unfold wantG at h
    split at h
    · simp at h
    · rename_i hk
      split at h
      · have := wantG_ok h
        omega
      · simp at h
theorem wantF_ok {t l : List UInt8} {k : Nat} (hk : k ≤ l.length) (h : wantF t l k = none) : k + t.length ≤ l.length := by
  have := wantG_ok h
  omega
/-- What went wrong, and where. -/
abbrev Wrong := Nat × Nat
def uptoF (l : List UInt8) (k : Nat) : Except Wrong (Nat × Nat) :=
  match numF 1099511627776 l k with
  | .error f => .error (f, k)
  | .ok (n, e) => if 65536 < n then .error (10, k) else .ok (n, e)
def litF (vars : Nat) (l : List UInt8) (k : Nat) : Except Wrong (Int × Nat) :=
  if k < l.length ∧ l.getD k 0 = 45 then
    match numF 1099511627776 l (k + 1) with
    | .error f => .error (f, k + 1)
    | .ok (n, e) => if n = 0 then .error (2, k + 1) else if vars < n then .error (5, k + 1) else .ok (-(n : Int), e)
  else match numF 1099511627776 l k with
    | .error f => .error (f, k)
    | .ok (n, e) => if vars < n then .error (5, k) else .ok ((n : Int), e)
def clauseG (vars : Nat) (l : List UInt8) : Nat → Nat → List Int → Except Wrong (List Int × Nat)
  | 0, k, _ => .error (12, k)
  | f + 1, k, c => match litF vars l k with
    | .error x => .error x
    | .ok (v, e) => if v = 0 then
        match wantF [10] l e with
        | some x => .error x
        | none => .ok (c, e + 1)
      else match wantF [32] l e with
        | some x => .error x
        | none => clauseG vars l f (e + 1) (c ++ [v])
def clauseF (vars : Nat) (l : List UInt8) (k : Nat) : Except Wrong (List Int × Nat) := clauseG vars l (l.length + 1 - k) k []
def clausesF (vars : Nat) (l : List UInt8) : Nat → Nat → List (List Int) → Except Wrong (List (List Int) × Nat)
  | 0, k, L => .ok (L, k)
  | n + 1, k, L => match clauseF vars l k with
    | .error x => .error x
    | .ok (c, e) => clausesF vars l n e (L ++ [c])
/-- A formula's text: variables and clauses. -/
def formF (l : List UInt8) (k : Nat) : Except Wrong (Nat × List (List Int)) :=
  match uptoF l k with
  | .error x => .error x
  | .ok (vars, e1) => match wantF [32] l e1 with
    | some x => .error x
    | none => match uptoF l (e1 + 1) with
      | .error x => .error x
      | .ok (many, e2) => match wantF [10] l e2 with
        | some x => .error x
        | none => match clausesF vars l many (e2 + 1) [] with
          | .error x => .error x
          | .ok (L, e3) => if e3 < l.length then .error (13, e3) else .ok (vars, L)
def headB : List UInt8 := [112, 32, 99, 110, 102, 32]
def parseF (l : List UInt8) : Except Wrong (Nat × List (List Int)) :=
  match wantF headB l 0 with
  | some _ => .error (3, 0)
  | none => formF l 6
theorem litF_ok {vars : Nat} {l : List UInt8} {k : Nat} {v : Int} {e : Nat} (h : litF vars l k = .ok (v, e)) : v.natAbs ≤ vars ∧ k < e ∧ e ≤ l.length := by
  unfold litF at h
  split at h
  · cases hn : numF 1099511627776 l (k + 1) with
    | error f => rw [hn] at h; simp at h
    | ok p =>
      obtain ⟨n, e'⟩ := p
      have := numF_ok hn
      rw [hn] at h
      simp only at h
      split at h
      · simp at h
      · split at h
        · simp at h
        · simp at h; omega
  · cases hn : numF 1099511627776 l k with
    | error f => rw [hn] at h; simp at h
    | ok p =>
      obtain ⟨n, e'⟩ := p
      have := numF_ok hn
      rw [hn] at h
      simp only at h
      split at h
      · simp at h
      · simp at h; omega
theorem litF_err {vars : Nat} {l : List UInt8} {k f p : Nat} (h : litF vars l k = .error (f, p)) : 0 < f ∧ f < 14 := by
  unfold litF at h
  split at h
  · cases hn : numF 1099511627776 l (k + 1) with
    | error f => have := numF_err hn; rw [hn] at h; simp at h; omega
    | ok q =>
      rw [hn] at h
      simp only at h
      split at h
      · simp at h; omega
      · split at h
        · simp at h; omega
        · simp at h
  · cases hn : numF 1099511627776 l k with
    | error f => have := numF_err hn; rw [hn] at h; simp at h; omega
    | ok q =>
      rw [hn] at h
      simp only at h
      split at h
      · simp at h; omega
      · simp at h
theorem uptoF_ok {l : List UInt8} {k n e : Nat} (h : uptoF l k = .ok (n, e)) : n ≤ 65536 ∧ k < e ∧ e ≤ l.length := by
  unfold uptoF at h
  cases hn : numF 1099511627776 l k with
  | error f => rw [hn] at h; simp at h
  | ok p =>
    obtain ⟨n, e'⟩ := p
    have := numF_ok hn
    rw [hn] at h
    simp only at h
    split at h
    · simp at h
    · simp at h; omega
theorem uptoF_err {l : List UInt8} {k f p : Nat} (h : uptoF l k = .error (f, p)) : 0 < f ∧ f < 14 := by
  unfold uptoF at h
  cases hn : numF 1099511627776 l k with
  | error f => have := numF_err hn; rw [hn] at h; simp at h; omega
  | ok q =>
    rw [hn] at h
    simp only at h
    split at h
    · simp at h; omega
    · simp at h
theorem clauseG_ok {vars : Nat} {l : List UInt8} : ∀ {f k : Nat} {c c' : List Int} {e : Nat}, clauseG vars l f k c = .ok (c', e) → (∀ x ∈ c, x ≠ 0 ∧ x.natAbs ≤ vars) → (∀ x ∈ c', x ≠ 0 ∧ x.natAbs ≤ vars) ∧ k < e ∧ e ≤ l.length
  | 0, k, c, c', e, h, _ => by simp [clauseG] at h
  | f + 1, k, c, c', e, h, hc => by
    unfold clauseG at h
    cases hl : litF vars l k with
    | error x => rw [hl] at h; simp at h
    | ok p =>
      obtain ⟨v, e1⟩ := p
      have h1 := litF_ok hl
      rw [hl] at h
      simp only at h
      split at h
      · cases hw : wantF [10] l e1 with
        | some x => rw [hw] at h; simp at h
        | none =>
          have h2 := wantF_ok h1.2.2 hw
          rw [hw] at h
          simp at h h2
          obtain ⟨rfl, rfl⟩ := h
          exact ⟨hc, by omega, by omega⟩
      · rename_i hv
        cases hw : wantF [32] l e1 with
        | some x => rw [hw] at h; simp at h
        | none =>
          have h2 := wantF_ok h1.2.2 hw
          rw [hw] at h
          simp only at h
          have := clauseG_ok h (fun x hx => by
            rw [List.mem_append, List.mem_singleton] at hx
            exact hx.elim (hc x) (fun e => e ▸ ⟨hv, h1.1⟩))
          refine ⟨this.1, by omega, this.2.2⟩
theorem clauseF_ok {vars : Nat} {l : List UInt8} {k : Nat} {c : List Int} {e : Nat} (h : clauseF vars l k = .ok (c, e)) : (∀ x ∈ c, x ≠ 0 ∧ x.natAbs ≤ vars) ∧ k < e ∧ e ≤ l.length := clauseG_ok h (fun x hx => by simp at hx)
end Go.Proofs.YtnpmaphedcfnnaaDoor
/-
  Slices read element by element (alone).
-/
namespace Go.Proofs.YtnpmaphedcfnnaaDoor
open Go.ChangeShapes Go.WideShapes Go.ChangeAt Go.RowKit
set_option linter.unusedVariables false
/-- A slice of elements of size cells, each read by R at its first cell. -/
def Seq {α : Type} (w : World) (size : Nat) (R : World → Nat → Nat → α → Prop) (d : α) (v : Value) (xs : List α) : Prop :=
  ∃ a cap, v = .slice a xs.length cap ∧ xs.length ≤ cap ∧ cap ≤ maxLen ∧ (xs = [] ∨ ∃ b off, a = some ⟨b, off, none⟩ ∧ ∀ j, j < xs.length → R w b (off + j * size) (xs.getD j d))
/-- What is read stays below what a call makes. -/
def Stays {α : Type} (R : World → Nat → Nat → α → Prop) : Prop := ∀ {w w' : World} {b o : Nat} {x : α}, R w b o x → Below w.heap.size w w' → R w' b o x
theorem cell_below {w w' : World} {b o : Nat} {u : Value} (h : w.cell? ⟨b, o, none⟩ = some u) (hb : Below w.heap.size w w') : w'.cell? ⟨b, o, none⟩ = some u :=
  (hb.cell (p := ⟨b, o, none⟩) (World.block_lt_of_cell? w _ h)).trans h
theorem Seq.below {α : Type} {w w' : World} {size : Nat} {R : World → Nat → Nat → α → Prop} {d : α} {v : Value} {xs : List α} (hR : Stays R) (h : Seq w size R d v xs) (hb : Below w.heap.size w w') : Seq w' size R d v xs := by
  obtain ⟨a, cap, rfl, h1, h2, h3⟩ := h
  refine ⟨a, cap, rfl, h1, h2, ?_⟩
  rcases h3 with h3 | ⟨b, off, rfl, hc⟩
  · exact .inl h3
  · exact .inr ⟨b, off, rfl, fun j hj => hR (hc j hj) hb⟩
theorem Seq.form {α : Type} {w : World} {size : Nat} {R : World → Nat → Nat → α → Prop} {d : α} {v : Value} {xs : List α} (h : Seq w size R d v xs) : ∃ a cap, v = .slice a xs.length cap ∧ xs.length ≤ cap ∧ cap ≤ maxLen := by
  obtain ⟨a, cap, rfl, h1, h2, -⟩ := h; exact ⟨a, cap, rfl, h1, h2⟩
theorem Seq.at_ {α : Type} {w : World} {size : Nat} {R : World → Nat → Nat → α → Prop} {d : α} {v : Value} {xs : List α} (h : Seq w size R d v xs) {j : Nat} (hj : j < xs.length) :
    ∃ b off cap, v = .slice (some ⟨b, off, none⟩) xs.length cap ∧ R w b (off + j * size) (xs.getD j d) := by
  obtain ⟨a, cap, rfl, -, -, h3⟩ := h
  have hne : xs ≠ [] := fun e => by rw [e] at hj; simp at hj
  obtain ⟨b, off, rfl, hc⟩ := h3.resolve_left hne
  exact ⟨b, off, cap, rfl, hc j hj⟩
theorem Seq.nil {α : Type} (w : World) (size : Nat) (R : World → Nat → Nat → α → Prop) (d : α) : Seq w size R d (.slice none 0 0) [] := ⟨none, 0, rfl, by simp, by simp, .inl rfl⟩
end Go.Proofs.YtnpmaphedcfnnaaDoor
/-
  Package scan: a reader of bytes.
-/
namespace Go.Proofs.YtnpmaphedcfnnaaDoor
open Go.ChangeShapes Go.WideShapes Go.ChangeAt Go.RowKit
set_option linter.unusedVariables false
def Qt (w w' : World) : Prop := ∃ n, w' = w.drewN n
theorem Qt.refl (w : World) : Qt w w := ⟨0, rfl⟩
theorem Qt.trans {a b c : World} (h : Qt a b) (g : Qt b c) : Qt a c := by
  obtain ⟨n, rfl⟩ := h
  obtain ⟨m, rfl⟩ := g
  exact ⟨_, World.drewN_drewN _ _ _⟩
theorem Qt.below {w w' : World} (h : Qt w w') : Below w.heap.size w w' := by obtain ⟨n, rfl⟩ := h; exact below_drewN (Below.refl _ _) n
def ByR (w : World) (b o : Nat) (c : UInt8) : Prop := w.cell? ⟨b, o, none⟩ = some (.int .u8 (c.toNat : Int))
abbrev By (w : World) (v : Value) (l : List UInt8) : Prop := Seq w 1 ByR 0 v l
theorem stays_by : Stays ByR := fun h hb => cell_below h hb
theorem getD_drop {α : Type} (l : List α) (k j : Nat) (d : α) : (l.drop k).getD j d = l.getD (k + j) d := by simp [List.getD]
/-- What is left of a slice. -/
theorem run_left (a : Option Addr) (n cap k : Nat) (hk : k ≤ n) (W : World) : (Instr.slice 52 (.slice a n cap) (some (.int .i64 (k : Int))) none none).run Tryd.prog W = .ok (sliced a k n cap 1) W := by
  have h1 : (k : Int) ≤ (n : Int) := by omega
  have h0 : (0 : Int) ≤ (k : Int) := by omega
  go_simp
theorem By.left {w : World} {a : Option Addr} {n cap : Nat} {l : List UInt8} (h : By w (.slice a n cap) l) (k : Nat) (hk : k ≤ l.length) : By w (sliced a k n cap 1) (l.drop k) := by
  obtain ⟨a', cap', he, h1, h2, h3⟩ := h
  injection he with e1 e2 e3
  subst e1 e2 e3
  have hl : (l.drop k).length = l.length - k := List.length_drop
  refine ⟨_, cap - k, by unfold sliced; rw [hl], by rw [hl]; omega, by omega, ?_⟩
  by_cases hz : l.drop k = []
  · exact .inl hz
  · have hlt : k < l.length := by
      rcases Nat.lt_or_ge k l.length with h | h
      · exact h
      · exact absurd (List.drop_eq_nil_of_le h) hz
    have hne : l ≠ [] := fun e => by rw [e] at hlt; simp at hlt
    obtain ⟨b, off, rfl, hc⟩ := h3.resolve_left hne
    have hne2 : ¬ cap = k := by omega
    refine .inr ⟨b, off + k, ?_, fun j hj => ?_⟩
    · rw [if_neg hne2]
      simp [Addr.add]
    · rw [getD_drop]
      have := hc (k + j) (by omega)
      rw [Nat.mul_one] at this ⊢
      rw [Nat.add_assoc]
      exact this
/-- The reader at block r: its bytes, and how many were read. -/
def ScanAt (w : World) (r : Nat) (l : List UInt8) (k : Nat) : Prop := ∃ v, Blk w r 111 #[v, .int .i64 (k : Int)] ∧ By w v l ∧ k ≤ l.length ∧ l.length ≤ 100000 ∧ ∀ g, v.ownBlock = some g → g < r
theorem ScanAt.qt {w w' : World} {r : Nat} {l : List UInt8} {k : Nat} (h : ScanAt w r l k) (hq : Qt w w') : ScanAt w' r l k := by
  obtain ⟨n, rfl⟩ := hq
  exact h
theorem By.chg {w w' : World} {S : Nat → Prop} {v : Value} {l : List UInt8} (h : By w v l) (hc : Chg S w w') (hn : ∀ g, v.ownBlock = some g → ¬ S g) : By w' v l := by
  obtain ⟨a, cap, rfl, h1, h2, h3⟩ := h
  refine ⟨a, cap, rfl, h1, h2, h3.elim .inl fun ⟨b, off, e, hcc⟩ => .inr ⟨b, off, e, fun j hj => ?_⟩⟩
  subst e
  have := hcc j hj
  unfold ByR at this ⊢
  have hlt := World.block_lt_of_cell? w _ this
  rw [World.cell?_of_block (w := w) (hc.block b hlt (hn b rfl))]
  exact this
/-- Writes to younger blocks leave the reader. -/
theorem ScanAt.chg {w w' : World} {S : Nat → Prop} {r : Nat} {l : List UInt8} {k : Nat} (h : ScanAt w r l k) (hc : Chg S w w') (hS : ∀ g, S g → r < g) : ScanAt w' r l k := by
  obtain ⟨v, h1, h2, h3, h4, h5⟩ := h
  exact ⟨v, h1.chg hc (fun e => by have := hS r e; omega), h2.chg hc (fun g hg hs => by have := hS g hs; have := h5 g hg; omega), h3, h4, h5⟩
theorem ScanAt.below {w w' : World} {r : Nat} {l : List UInt8} {k : Nat} (h : ScanAt w r l k) (hb : Below w.heap.size w w') : ScanAt w' r l k := by
  obtain ⟨v, h1, h2, h3⟩ := h
  exact ⟨v, h1.below hb h1.lt, h2.below stays_by hb, h3⟩
/-- What left tells. -/
def LeftPost (w : World) (l : List UInt8) (k : Nat) (e : Ending) (w' : World) : Prop := ∃ u, e = .returned u ∧ By w' u (l.drop k) ∧ Qt w w'
set_option maxHeartbeats 1000000 in
theorem left_ {w : World} {r : Nat} {l : List UInt8} {k : Nat} (h : ScanAt w r l k) : Calls Tryd.prog 68 #[.pointer (some ⟨r, 0, none⟩)] w (LeftPost w l k) := by
  obtain ⟨v, hb, hv, hk, hl⟩ := h
  obtain ⟨a, cap, rfl, -, -⟩ := hv.form
  have c0 : w.cell? ⟨r, 0, none⟩ = some (.slice a l.length cap) := hb.cell 0
  have c1 : w.cell? ⟨r, 1, none⟩ = some (.int .i64 (k : Int)) := hb.cell 1
  have hs := run_left a l.length cap k hk
  have HV := Lib.hid (hv.left k hk)
  generalize sliced a k l.length cap 1 = u at *
  generalize l.length = n at *
  clear hb hv
  go_enter Tryd.func68, Tryd.ntmps68
  go_wp2
  go_quiet (fail)
  go_wp2
  go_ret
  exact ⟨u, rfl, HV.out, _, rfl⟩
theorem At_ {w : World} {r : Nat} {l : List UInt8} {k : Nat} (h : ScanAt w r l k) : Calls Tryd.prog 69 #[.pointer (some ⟨r, 0, none⟩)] w fun e w' => e = .returned (.int .i64 (k : Int)) ∧ w = w' := by
  obtain ⟨v, hb, hv, hk, hl⟩ := h
  have c1 : w.cell? ⟨r, 1, none⟩ = some (.int .i64 (k : Int)) := hb.cell 1
  clear hb hv
  go_enter Tryd.func69, Tryd.ntmps69
  go_wp2
  go_ret
  exact ⟨rfl, rfl⟩
theorem Left_ {w : World} {r : Nat} {l : List UInt8} {k : Nat} (h : ScanAt w r l k) : Calls Tryd.prog 73 #[.pointer (some ⟨r, 0, none⟩)] w fun e w' => e = .returned (.int .i64 ((l.length - k : Nat) : Int)) ∧ Qt w w' := by
  have HL := Lib.hid (left_ h)
  have hd : (l.drop k).length = l.length - k := List.length_drop
  have HD := Lib.hid hd
  clear h hd
  go_enter Tryd.func73, Tryd.ntmps73
  go_wp2_with fail
  refine HL.out.mono ?_
  rintro e w1 ⟨u, rfl, hu, hq⟩
  obtain ⟨a, cap, rfl, -, -⟩ := hu.form
  have HQ := Lib.hid hq
  rw [HD.out]
  clear hu hq
  go_wp2
  go_ret
  exact ⟨rfl, HQ.out⟩
/-- Bytes lie in no reader. -/
theorem by_ne {w : World} {r b o : Nat} {a : Option Addr} {n cap : Nat} {y : Int} {c : UInt8} (hb : Blk w r 111 #[.slice a n cap, .int .i64 y]) (hc : ByR w b o c) : b ≠ r := by
  rintro rfl
  unfold ByR at hc
  rw [hb.cell o] at hc
  match o, hc with
  | 0, hc => simp at hc
  | 1, hc => simp at hc
theorem By.keep {w : World} {r : Nat} {a : Option Addr} {n cap : Nat} {y : Int} {v : Value} {l : List UInt8} (h : By w v l) (hb : Blk w r 111 #[.slice a n cap, .int .i64 y]) (z : Value) : By (w.setCell ⟨r, 1, none⟩ z) v l := by
  obtain ⟨a', cap', rfl, h1, h2, h3⟩ := h
  refine ⟨a', cap', rfl, h1, h2, h3.elim .inl fun ⟨b, off, e, hc⟩ => .inr ⟨b, off, e, fun j hj => ?_⟩⟩
  have hj := hc j hj
  have hne := by_ne hb hj
  unfold ByR at hj ⊢
  have e := Below.heap_setCell w ⟨r, 1, none⟩ z b hne
  rw [World.cell?_of_block (w := w) e]
  exact hj
theorem ScanAt.move {w : World} {r : Nat} {l : List UInt8} {k m : Nat} (h : ScanAt w r l k) (hm : m ≤ l.length) : ScanAt (w.setCell ⟨r, 1, none⟩ (.int .i64 (m : Int))) r l m := by
  obtain ⟨v, hb, hv, hk, hl⟩ := h
  obtain ⟨a, cap, rfl, -, -⟩ := hv.form
  exact ⟨_, hb.set_ 1 _, hv.keep hb _, hm, hl⟩
theorem By.head {w : World} {u : Value} {l : List UInt8} {k : Nat} (h : By w u (l.drop k)) (hk : k < l.length) : ∃ b off cap, u = .slice (some ⟨b, off, none⟩) (l.length - k) cap ∧ w.cell? ⟨b, off, none⟩ = some (.int .u8 ((l.getD k 0).toNat : Int)) := by
  have hd : (l.drop k).length = l.length - k := List.length_drop
  obtain ⟨b, off, cap, e, hc⟩ := h.at_ (j := 0) (by omega)
  rw [hd] at e
  unfold ByR at hc
  rw [getD_drop] at hc
  exact ⟨b, off, cap, e, by simpa using hc⟩
theorem Peek_ {w : World} {r : Nat} {l : List UInt8} {k : Nat} (h : ScanAt w r l k) : Calls Tryd.prog 91 #[.pointer (some ⟨r, 0, none⟩)] w fun e w' => e = .returned (.int .i64 (if k < l.length then ((l.getD k 0).toNat : Int) else -1)) ∧ Qt w w' := by
  have HL := Lib.hid (left_ h)
  by_cases hk : k < l.length
  · rw [if_pos hk]
    have h255 : (l.getD k 0).toNat < 256 := (l.getD k 0).toNat_lt
    have HK := Lib.hid hk
    have hn : ((l.length - k : Nat) : Int) ≠ 0 := by omega
    have hnb : (((l.length - k : Nat) : Int) == 0) = false := by rw [beq_eq_false_iff_ne]; exact hn
    have hn1 : (0 : Int) < ((l.length - k : Nat) : Int) := by omega
    obtain ⟨c, hc0⟩ : ∃ c : Nat, c = (l.getD k 0).toNat := ⟨_, rfl⟩
    have HC0 := Lib.hid hc0
    rw [← hc0] at h255 ⊢
    clear h hk hn hc0
    go_enter Tryd.func91, Tryd.ntmps91
    go_wp2_with fail
    refine HL.out.mono ?_
    rintro e w1 ⟨u, rfl, hu, hq⟩
    obtain ⟨b, off, cap, rfl, hc⟩ := hu.head HK.out
    have HQ := Lib.hid hq
    rw [← HC0.out] at hc
    generalize l.length - k = m at *
    clear hu hq
    go_wp2
    go_ret
    exact ⟨rfl, HQ.out⟩
  · rw [if_neg hk]
    have hd : (l.drop k).length = 0 := by rw [List.length_drop]; omega
    have HD := Lib.hid hd
    clear h hk hd
    go_enter Tryd.func91, Tryd.ntmps91
    go_wp2_with fail
    refine HL.out.mono ?_
    rintro e w1 ⟨u, rfl, hu, hq⟩
    obtain ⟨a, cap, rfl, -, -⟩ := hu.form
    have HQ := Lib.hid hq
    rw [HD.out]
    clear hu hq
    go_wp2
    go_ret
    exact ⟨rfl, HQ.out⟩
/-- What a byte read leaves; the reader moves alone. -/
def MovePost (w : World) (r : Nat) (l : List UInt8) (m : Nat) (v : Value) (e : Ending) (w' : World) : Prop := e = .returned v ∧ ScanAt w' r l m ∧ Chg (fun k => k = r) w w'
theorem Qt.chg {S : Nat → Prop} {a b c : World} (h : Qt a b) (g : Chg S b c) : Chg S a c := by
  exact (Chg.of_below h.below).trans g (fun i hi => .inl hi)
theorem Byte_yes {w : World} {r : Nat} {l : List UInt8} {k : Nat} (h : ScanAt w r l k) (hk : k < l.length) : Calls Tryd.prog 92 #[.pointer (some ⟨r, 0, none⟩)] w (MovePost w r l (k + 1) (.tuple #[.int .u8 ((l.getD k 0).toNat : Int), .bool true])) := by
  have HL := Lib.hid (left_ h)
  have HS := Lib.hid h
  have h255 : (l.getD k 0).toNat < 256 := (l.getD k 0).toNat_lt
  have HK := Lib.hid hk
  have hnb : (((l.length - k : Nat) : Int) == 0) = false := by rw [beq_eq_false_iff_ne]; omega
  have hn1 : (0 : Int) < ((l.length - k : Nat) : Int) := by omega
  have hk0 : (0 : Int) ≤ (k : Int) := by omega
  have hk1 : (k : Int) < 100000 := by have := h.choose_spec.2.2.2.1; omega
  obtain ⟨c, hc0⟩ : ∃ c : Nat, c = (l.getD k 0).toNat := ⟨_, rfl⟩
  have HC0 := Lib.hid hc0
  rw [← hc0] at h255 ⊢
  clear h hk hc0
  go_enter Tryd.func92, Tryd.ntmps92
  go_wp2_with fail
  refine HL.out.mono ?_
  rintro e w1 ⟨u, rfl, hu, hq⟩
  obtain ⟨b, off, cap, rfl, hc⟩ := hu.head HK.out
  rw [← HC0.out] at hc
  have hs1 := HS.out.qt hq
  have hmv := hs1.move (m := k + 1) (by have := HK.out; omega)
  obtain ⟨v, hb, hv, -, -⟩ := hs1
  obtain ⟨a2, cap2, rfl, -, -⟩ := hv.form
  have c1 : w1.cell? ⟨r, 1, none⟩ = some (.int .i64 (k : Int)) := hb.cell 1
  have f1 : w1.frozen? ⟨r, 1, none⟩ = false := hb.frozen 1
  have hne : b ≠ r := by_ne (c := l.getD k 0) hb (by unfold ByR; rw [← HC0.out]; exact hc)
  have hc2 : (w1.setCell ⟨r, 1, none⟩ (.int .i64 ((k : Int) + 1))).cell? ⟨b, off, none⟩ = some (.int .u8 (c : Int)) := by
    have e := Below.heap_setCell w1 ⟨r, 1, none⟩ (.int .i64 ((k : Int) + 1)) b hne
    rw [World.cell?_of_block (w := w1) e]
    exact hc
  have hcg : Chg (fun i => i = r) w (w1.setCell ⟨r, 1, none⟩ (.int .i64 ((k : Int) + 1))) := hq.chg ((Chg.refl (fun i => i = r) w1).setCell (p := ⟨r, 1, none⟩) (.inl rfl) _)
  have HM := Lib.hid hmv
  have HC := Lib.hid hcg
  generalize l.length - k = m at *
  clear hu hq hb hv hmv hcg hne
  go_wp2
  go_ret2
  exact ⟨rfl, HM.out, HC.out⟩
end Go.Proofs.YtnpmaphedcfnnaaDoor
/-
  Package scan: Want.
-/
namespace Go.Proofs.YtnpmaphedcfnnaaDoor
open Go.ChangeShapes Go.WideShapes Go.ChangeAt Go.RowKit
set_option linter.unusedVariables false
/-- What a text that must come tells. -/
def WantPost (w : World) (r : Nat) (l : List UInt8) (k : Nat) (n : Nat) (o : Option (Nat × Nat)) (e : Ending) (w' : World) : Prop :=
  match o with
  | none => MovePost w r l (k + n) (.tuple #[.int .i64 (-1), .int .i64 0]) e w'
  | some (f, p) => MovePost w r l k (.tuple #[.int .i64 (p : Int), .int .i64 (f : Int)]) e w'
theorem ScanAt.still {v : Value} {w w' : World} {r : Nat} {l : List UInt8} {k : Nat} (h : ScanAt w r l k) (hq : Qt w w') : MovePost w r l k v (.returned v) w' := ⟨rfl, h.qt hq, hq.chg (Chg.refl _ _)⟩
theorem getDj (s : ByteArray) (j : Nat) (h : j < s.size) : (s.data.toList.getD j 0).toNat = s[j].toNat := by
  have : j < s.data.toList.length := by rw [Array.length_toList]; exact h
  rw [List.getD_eq_getElem?_getD, List.getElem?_eq_getElem this]
  simp
  rfl
theorem want_none {w w' : World} {r : Nat} {l : List UInt8} {k n : Nat} {o : Option (Nat × Nat)} {v : Value} (ho : o = none) (hv : v = .tuple #[.int .i64 (-1), .int .i64 0]) (h : ScanAt w' r l (k + n)) (hc : Chg (fun i => i = r) w w') : WantPost w r l k n o (.returned v) w' := by
  subst ho hv
  exact ⟨rfl, h, hc⟩
theorem want_some {w w' : World} {r : Nat} {l : List UInt8} {k n f p : Nat} {o : Option (Nat × Nat)} {v : Value} (ho : o = some (f, p)) (hv : v = .tuple #[.int .i64 (p : Int), .int .i64 (f : Int)]) (h : ScanAt w' r l k) (hq : Qt w w') : WantPost w r l k n o (.returned v) w' := by
  subst ho hv
  exact ⟨rfl, h, hq.chg (Chg.refl _ _)⟩
set_option maxHeartbeats 1000000 in
theorem Want_ {w : World} {r : Nat} {l : List UInt8} {k : Nat} (h : ScanAt w r l k) (s : ByteArray) (hs : s.size ≤ 1000) (o : Option (Nat × Nat)) (ho : wantF s.data.toList l k = o) : Calls Tryd.prog 51 #[.pointer (some ⟨r, 0, none⟩), .string s] w (WantPost w r l k s.size o) := by
  have HL := Lib.hid (left_ h)
  have HS := Lib.hid h
  have HO := Lib.hid ho
  have HOF := Lib.hid ho
  have hd : (l.drop k).length = l.length - k := List.length_drop
  have hk0 : k ≤ l.length ∧ l.length ≤ 100000 := ⟨h.choose_spec.2.2.1, h.choose_spec.2.2.2.1⟩
  have HD := Lib.hid hd
  have HG := Lib.hid (fun j => getD_drop l k j 0)
  have hsl : s.data.toList.length = s.size := by rw [Array.length_toList]; rfl
  clear h ho hd
  go_enter Tryd.func51, Tryd.ntmps51
  go_wp2_with fail
  refine HL.out.mono ?_
  rintro e w1 ⟨u, rfl, hu, hq⟩
  obtain ⟨a, cap, rfl, -, -⟩ := hu.form
  have HU := Lib.hid hu
  have HQ := Lib.hid hq
  generalize l.drop k = d at *
  clear hu hq
  have h0 := HO.out
  unfold wantF at h0
  rw [hsl] at h0
  have H0 := Lib.hid h0
  clear h0 HO
  go_wp2
  have hs1 := HS.out.qt HQ.out
  go_loopw [12] (fun i wr => ∃ j : Nat, j ≤ s.size ∧ i = .int .i64 (j : Int) ∧ Hid (wantG s.data.toList l k (s.size - j) j = o) ∧ Qt w1 wr) (fun i _ => s.size - (intOf i).toNat)
  case atStart => exact ⟨0, Nat.zero_le _, rfl, H0, Qt.refl _⟩
  case round =>
    clear H0
    obtain ⟨j, hj, rfl, hi, hqr⟩ := hrel
    have hs1 := hs1.qt hqr
    have HR := Lib.hid (HQ.out.trans hqr)
    have HRR := Lib.hid hqr
    by_cases hlt : (j : Int) < (s.size : Int)
    · have hlt' : j < s.size := by omega
      have e : s.size - j = (s.size - (j + 1)) + 1 := by omega
      have h0 := hi.out
      rw [e] at h0
      unfold wantG at h0
      clear hi e
      have HAt := Lib.hid (fun n => At_ (hs1.qt ⟨n, rfl⟩))
      have hS := Lib.hid hs1
      by_cases hdl : (d.length : Int) ≤ (j : Int)
      · rw [if_pos (by have := HD.out; omega)] at h0
        have H0 := Lib.hid h0.symm
        clear h0 hs1 hqr
        go_wp2_with fail
        refine (HAt.out 0).mono ?_
        rintro e w2 ⟨rfl, rfl⟩
        go_wp2
        go_ret2
        exact want_some H0.out (by go_num) hS.out HR.out
      · rw [if_neg (by have := HD.out; omega)] at h0
        have hdj : j < d.length := by omega
        have hU : By wr (.slice a d.length cap) d := HU.out.below stays_by hqr.below
        obtain ⟨b, off, cap2, he, hc⟩ := hU.at_ hdj
        clear hU
        injection he with e1 e2 e3
        subst e1 e3
        rw [HG.out j, Nat.mul_one] at hc
        unfold ByR at hc
        have hsj : s[j].toNat = (s.data.toList.getD j 0).toNat := (getDj s j hlt').symm
        have h255 : s[j].toNat < 256 := s[j].toNat_lt
        have h256 : (l.getD (k + j) 0).toNat < 256 := (l.getD (k + j) 0).toNat_lt
        obtain ⟨c, hcc⟩ : ∃ c, c = (l.getD (k + j) 0).toNat := ⟨_, rfl⟩
        rw [← hcc] at hc h256
        by_cases heq : l.getD (k + j) 0 = s.data.toList.getD j 0
        · rw [if_pos heq] at h0
          have hn : ((c : Int) == (s[j].toNat : Int)) = true := by rw [hsj, ← heq, hcc]; simp
          have H0 := Lib.hid h0
          clear h0 hcc heq hsj hqr hs1
          go_wp2
          go_quiet (fail)
          go_wp2
          go_roundw
          case rel => exact ⟨j + 1, by omega, by go_num, H0, HRR.out.trans ⟨_, rfl⟩⟩
          case measure => simp [intOf]; omega
        · rw [if_neg heq] at h0
          have hn : ((c : Int) == (s[j].toNat : Int)) = false := by
            rw [hsj, hcc, beq_eq_false_iff_ne]
            intro e
            exact heq (UInt8.toNat.inj (by omega))
          have H0 := Lib.hid h0.symm
          clear h0 hcc heq hsj hqr hs1
          go_wp2
          go_quiet (fail)
          go_wp2_with fail
          refine (HAt.out _).mono ?_
          rintro e w2 ⟨rfl, rfl⟩
          go_wp2
          go_ret2
          exact want_some H0.out (by go_num) (hS.out.qt ⟨_, rfl⟩) (HR.out.trans ⟨_, rfl⟩)
    · have hjs : j = s.size := by omega
      subst hjs
      have h0 := hi.out
      rw [Nat.sub_self] at h0
      have hno : o = none := h0.symm
      have hle : k + s.size ≤ l.length := by
        have := wantF_ok (t := s.data.toList) hk0.1 (HOF.out.trans hno)
        rw [hsl] at this
        exact this
      have hmv := hs1.move hle
      obtain ⟨v, hb, hv, -, -⟩ := hs1
      obtain ⟨a2, cap2, rfl, -, -⟩ := hv.form
      have c1 : wr.cell? ⟨r, 1, none⟩ = some (.int .i64 (k : Int)) := hb.cell 1
      have f1 : wr.frozen? ⟨r, 1, none⟩ = false := hb.frozen 1
      have hz : ((k + s.size : Nat) : Int) = (k : Int) + (s.size : Int) := by omega
      rw [hz] at hmv
      have hcg : Chg (fun i => i = r) w (wr.setCell ⟨r, 1, none⟩ (.int .i64 ((k : Int) + (s.size : Int)))) := HR.out.chg ((Chg.refl (fun i => i = r) wr).setCell (p := ⟨r, 1, none⟩) (.inl rfl) _)
      have HM := Lib.hid hmv
      have HC := Lib.hid hcg
      have HN := Lib.hid hno
      clear h0 hi hb hv hmv hcg hno hqr hz
      go_wp2
      go_ret2
      exact want_none HN.out rfl HM.out HC.out
end Go.Proofs.YtnpmaphedcfnnaaDoor
/-
  Package scan: Number.
-/
namespace Go.Proofs.YtnpmaphedcfnnaaDoor
open Go.ChangeShapes Go.WideShapes Go.ChangeAt Go.RowKit
set_option linter.unusedVariables false
/-- What a number tells. -/
def NumAt (w : World) (r : Nat) (l : List UInt8) (k : Nat) (o : Except Nat (Nat × Nat)) (e : Ending) (w' : World) : Prop :=
  match o with
  | .error f => MovePost w r l k (.tuple #[.int .i64 0, .int .i64 (f : Int)]) e w'
  | .ok (n, m) => MovePost w r l m (.tuple #[.int .i64 (n : Int), .int .i64 0]) e w'
theorem num_err {w w' : World} {r : Nat} {l : List UInt8} {k f : Nat} {o : Except Nat (Nat × Nat)} {v : Value} (ho : o = .error f) (hv : v = .tuple #[.int .i64 0, .int .i64 (f : Int)]) (h : ScanAt w' r l k) (hq : Qt w w') : NumAt w r l k o (.returned v) w' := by
  subst ho hv
  exact ⟨rfl, h, hq.chg (Chg.refl _ _)⟩
theorem num_ok {w w' : World} {r : Nat} {l : List UInt8} {k n m : Nat} {o : Except Nat (Nat × Nat)} {v : Value} (ho : o = .ok (n, m)) (hv : v = .tuple #[.int .i64 (n : Int), .int .i64 0]) (h : ScanAt w' r l m) (hc : Chg (fun i => i = r) w w') : NumAt w r l k o (.returned v) w' := by
  subst ho hv
  exact ⟨rfl, h, hc⟩
theorem endG_yes {l : List UInt8} {n i : Nat} (h : isDig (l.getD i 0)) : endG l (n + 1) i = endG l n (i + 1) := by
  rw [endG, if_pos h]
theorem endG_no {l : List UInt8} {n i : Nat} (h : ¬ isDig (l.getD i 0)) : endG l (n + 1) i = i := by
  rw [endG, if_neg h]
theorem valG_step {most : Nat} {l : List UInt8} {f i n dd : Nat} (hc : (l.getD i 0).toNat = 48 + dd) : valG most l (f + 1) i n = if most < dd ∨ (most - dd) / 10 < n then none else valG most l f (i + 1) (n * 10 + dd) := by
  rw [valG, hc, Nat.add_sub_cancel_left]
theorem num_more {most : Nat} {l : List UInt8} {k j : Nat} {o : Except Nat (Nat × Nat)} (ho : numF most l k = o) (hj : 0 < j) (hE : endF l k = k + j) (hlen : k + j ≤ l.length) :
    (∀ i, i < j → ∃ dd, dd ≤ 9 ∧ (l.getD (k + i) 0).toNat = 48 + dd) ∧ (l.getD k 0 = 48 → 1 < j → o = .error 4) ∧ (¬ (l.getD k 0 = 48 ∧ 1 < j) → valG most l j k 0 = none → o = .error 4) ∧ (¬ (l.getD k 0 = 48 ∧ 1 < j) → ∀ n, valG most l j k 0 = some n → o = .ok (n, k + j)) := by
  have hd : ∀ i, i < j → isDig (l.getD (k + i) 0) := fun i hi => endG_dig l (l.length - k) k (k + i) (by omega) (by unfold endF at hE; omega)
  have h0 : isDig (l.getD k 0) := hd 0 hj
  unfold numF at ho
  rw [if_neg (by omega), if_neg (fun h => h h0), hE, Nat.add_sub_cancel_left] at ho
  refine ⟨fun i hi => ?_, fun h1 h2 => ?_, fun h1 h2 => ?_, fun h1 n h2 => ?_⟩
  · have := hd i hi
    unfold isDig at this
    exact ⟨(l.getD (k + i) 0).toNat - 48, by omega, by omega⟩
  · rw [if_pos ⟨h1, by omega⟩] at ho; exact ho.symm
  · rw [if_neg (fun h => h1 ⟨h.1, by omega⟩), h2] at ho; exact ho.symm
  · rw [if_neg (fun h => h1 ⟨h.1, by omega⟩), h2] at ho; exact ho.symm
theorem quo_ten (a d : Nat) (h : d ≤ a) : ((a : Int) - (d : Int)) / 10 = (((a - d) / 10 : Nat) : Int) := by omega
set_option maxHeartbeats 4000000 in
theorem Number_ {w : World} {r : Nat} {l : List UInt8} {k : Nat} (h : ScanAt w r l k) (most : Nat) (hmost : (most : Int) ≤ 4611686018427387904) (o : Except Nat (Nat × Nat)) (ho : numF most l k = o) : Calls Tryd.prog 79 #[.pointer (some ⟨r, 0, none⟩), .int .i64 (most : Int)] w (NumAt w r l k o) := by
  have HL := Lib.hid (left_ h)
  have HS := Lib.hid h
  have HO := Lib.hid ho
  have hd : (l.drop k).length = l.length - k := List.length_drop
  have hk0 : k ≤ l.length ∧ l.length ≤ 100000 := ⟨h.choose_spec.2.2.1, h.choose_spec.2.2.2.1⟩
  have HD := Lib.hid hd
  have HG := Lib.hid (fun j => getD_drop l k j 0)
  clear h ho hd
  go_enter Tryd.func79, Tryd.ntmps79
  go_wp2
  go_step3
  go_wp2_with fail
  refine HL.out.mono ?_
  rintro e w1 ⟨u, rfl, hu, hq⟩
  obtain ⟨a, cap, rfl, hcap, -⟩ := hu.form
  have HU := Lib.hid hu
  have HQ := Lib.hid hq
  generalize l.drop k = d at *
  clear hu hq
  have hs1 := HS.out.qt HQ.out
  have hd5 : (d.length : Int) ≤ 100000 := by have := HD.out; omega
  go_wp2
  go_step3
  go_wp2
  go_loopw [7] (fun i wr => ∃ j : Nat, j ≤ d.length ∧ i = .int .i64 (j : Int) ∧ Hid (endG l (d.length - j) (k + j) = endF l k) ∧ w1 = wr) (fun i _ => d.length - (intOf i).toNat)
  case atStart => exact ⟨0, Nat.zero_le _, rfl, Lib.hid (by rw [HD.out]; rfl), rfl⟩
  case round =>
    obtain ⟨j, hj, rfl, hi, rfl⟩ := hrel
    have HS1 := Lib.hid hs1
    clear hs1
    by_cases hlt : (j : Int) < (d.length : Int)
    · have hdj : j < d.length := by omega
      have e : d.length - j = (d.length - (j + 1)) + 1 := by omega
      have h0 := hi.out
      rw [e] at h0
      clear hi e
      obtain ⟨b, off, cap2, he, hc⟩ := HU.out.at_ hdj
      have hc0 : ∃ b' off' cap', _ := HU.out.at_ (j := 0) (by omega)
      obtain ⟨b', off', cap', he', hc0⟩ := hc0
      rw [he] at he'
      injection he with e1 e2 e3
      injection he' with e1' e2' e3'
      injection e1' with e1'
      injection e1' with e4 e5
      subst e1 e3 e4 e5
      rw [HG.out j, Nat.mul_one] at hc
      rw [HG.out 0, Nat.zero_mul, Nat.add_zero] at hc0
      unfold ByR at hc hc0
      have h256 : (l.getD (k + j) 0).toNat < 256 := (l.getD (k + j) 0).toNat_lt
      by_cases hd : isDig (l.getD (k + j) 0)
      · rw [endG_yes hd] at h0
        unfold isDig at hd
        generalize (l.getD (k + j) 0).toNat = c at *
        have hl1 : ¬ (c : Int) < 48 := by omega
        have hl2 : ¬ (57 : Int) < (c : Int) := by omega
        have H0 := Lib.hid h0
        clear h0 hd hc0
        go_wp2
        go_roundw
        case rel => exact ⟨j + 1, by omega, by go_num, H0, trivial⟩
        case measure => simp [intOf]; omega
      · rw [endG_no hd] at h0
        have HJ := Lib.hid h0.symm
        have HND := Lib.hid hd
        unfold isDig at hd
        have HC0 := Lib.hid hc0
        generalize (l.getD (k + j) 0).toNat = c at *
        clear h0 hc0
        by_cases hj0 : j = 0
        · subst hj0
          have ho : o = .error 2 := by
            have hk : ¬ l.length ≤ k := by have := HD.out; omega
            rw [← HO.out]
            unfold numF
            rw [if_neg hk, if_pos (by simpa using HND.out)]
          have HE := Lib.hid ho
          rw [Nat.add_zero] at hc
          by_cases hl1 : (c : Int) < 48
          · clear hd ho
            go_wp2
            go_returns
            exact num_err HE.out rfl HS1.out HQ.out
          · have hl2 : (57 : Int) < (c : Int) := by omega
            clear hd ho
            go_wp2
            go_returns
            exact num_err HE.out rfl HS1.out HQ.out
        · have hj1 : 0 < j := by omega
          clear HND
          by_cases hl1 : (c : Int) < 48
          · clear hd hj0
            obtain ⟨hm, h1, h2, h3⟩ := num_more HO.out hj1 HJ.out (by have := HD.out; omega)
            have HM := Lib.hid hm
            have h255 : (l.getD (k + 0) 0).toNat < 256 := (l.getD (k + 0) 0).toNat_lt
            have hc0 := HC0.out
            have H48 : Hid ((l.getD (k + 0) 0).toNat = 48 ↔ l.getD k 0 = 48) := Lib.hid ⟨fun h => UInt8.toNat.inj (by simpa using h), fun h => by rw [Nat.add_zero, h]; rfl⟩
            generalize (l.getD (k + 0) 0).toNat = c0 at *
            by_cases hz1 : j = 1
            · have H2 := Lib.hid (h2 (fun h => by omega))
              have H3 := Lib.hid (h3 (fun h => by omega))
              have hj2 : ¬ (1 : Int) < (j : Int) := by omega
              clear hm h1 h2 h3
              have HZ1 := Lib.hid hz1
              clear hz1
              go_wp2
              go_loopw [51, 4] (fun i n' wr => ∃ a n : Nat, a ≤ j ∧ i = .int .i64 (a : Int) ∧ n' = .int .i64 (n : Int) ∧ n ≤ most ∧ Hid (valG most l (j - a) (k + a) n = valG most l j k 0) ∧ w1 = wr) (fun i _ _ => j - (intOf i).toNat)
              case atStart => exact ⟨0, 0, Nat.zero_le _, rfl, rfl, Nat.zero_le _, Lib.hid rfl, rfl⟩
              case round =>
                obtain ⟨a, n, ha, rfl, rfl, hn, hv, rfl⟩ := hrel
                by_cases hlt2 : (a : Int) < (j : Int)
                · have haj : a < j := by omega
                  obtain ⟨dd, hdd, hc48⟩ := HM.out a haj
                  have h0 := hv.out
                  rw [show j - a = (j - (a + 1)) + 1 by omega, valG_step hc48] at h0
                  obtain ⟨b2, off2, cap3, he2, hca⟩ := HU.out.at_ (j := a) (by omega)
                  injection he2 with e21 e22 e23
                  injection e21 with e21
                  injection e21 with e24 e25
                  subst e24 e25
                  rw [HG.out a, Nat.mul_one] at hca
                  unfold ByR at hca
                  rw [hc48] at hca
                  have hs48 : (48 : Int) + (dd : Int) - 48 = (dd : Int) := by omega
                  clear hv hc48 e22 e23
                  by_cases hm1 : (most : Int) < (dd : Int)
                  · have HE := Lib.hid (H2.out (by rw [← h0, if_pos (.inl (by omega))]))
                    clear h0
                    go_wp2
                    go_returns
                    exact num_err HE.out rfl HS1.out HQ.out
                  · have hq := quo_ten most dd (by omega)
                    have hqb : (most - dd) / 10 * 10 ≤ most - dd := Nat.div_mul_le_self _ _
                    by_cases hm2 : (((most - dd) / 10 : Nat) : Int) < (n : Int)
                    · have HE := Lib.hid (H2.out (by rw [← h0, if_pos (.inr (by omega))]))
                      clear h0
                      generalize (most - dd) / 10 = q at *
                      go_wp2
                      go_returns
                      exact num_err HE.out rfl HS1.out HQ.out
                    · rw [if_neg (by omega)] at h0
                      have HV := Lib.hid h0
                      clear h0
                      generalize (most - dd) / 10 = q at *
                      have hnn : n * 10 + dd ≤ most := by omega
                      go_wp2
                      go_roundw
                      case rel => exact ⟨a + 1, n * 10 + dd, by omega, by go_num, by go_num, hnn, HV, trivial⟩
                      case measure => simp [intOf]; omega
                · have haj : a = j := by omega
                  subst haj
                  have h0 := hv.out
                  rw [Nat.sub_self] at h0
                  have HE := Lib.hid (H3.out n h0.symm)
                  clear h0 hv
                  have hmv := HS1.out.move (m := k + a) (by have := HD.out; omega)
                  obtain ⟨v, hb, hv, -, -⟩ := HS1.out
                  obtain ⟨a2, cap2, rfl, -, -⟩ := hv.form
                  have c1 : w1.cell? ⟨r, 1, none⟩ = some (.int .i64 (k : Int)) := hb.cell 1
                  have f1 : w1.frozen? ⟨r, 1, none⟩ = false := hb.frozen 1
                  have hz : ((k + a : Nat) : Int) = (k : Int) + (a : Int) := by omega
                  rw [hz] at hmv
                  have hcg : Chg (fun i => i = r) w (w1.setCell ⟨r, 1, none⟩ (.int .i64 ((k : Int) + (a : Int)))) := HQ.out.chg ((Chg.refl (fun i => i = r) w1).setCell (p := ⟨r, 1, none⟩) (.inl rfl) _)
                  have HMV := Lib.hid hmv
                  have HCG := Lib.hid hcg
                  clear hb hv hmv hcg hz
                  go_wp2
                  go_returns
                  exact num_ok HE.out rfl HMV.out HCG.out
            · have hj2 : (1 : Int) < (j : Int) := by omega
              by_cases h48 : c0 = 48
              · have HE := Lib.hid (h1 (H48.out.1 h48) (by omega))
                clear hm h1 h2 h3 hz1
                subst h48
                go_wp2
                go_returns
                exact num_err HE.out rfl HS1.out HQ.out
              · have H2 := Lib.hid (h2 (fun h => h48 (H48.out.2 h.1)))
                have H3 := Lib.hid (h3 (fun h => h48 (H48.out.2 h.1)))
                have hcb : ((c0 : Int) == 48) = false := by rw [beq_eq_false_iff_ne]; omega
                clear hm h1 h2 h3 hz1
                go_wp2
                go_loopw [51, 4] (fun i n' wr => ∃ a n : Nat, a ≤ j ∧ i = .int .i64 (a : Int) ∧ n' = .int .i64 (n : Int) ∧ n ≤ most ∧ Hid (valG most l (j - a) (k + a) n = valG most l j k 0) ∧ w1 = wr) (fun i _ _ => j - (intOf i).toNat)
                case atStart => exact ⟨0, 0, Nat.zero_le _, rfl, rfl, Nat.zero_le _, Lib.hid rfl, rfl⟩
                case round =>
                  obtain ⟨a, n, ha, rfl, rfl, hn, hv, rfl⟩ := hrel
                  by_cases hlt2 : (a : Int) < (j : Int)
                  · have haj : a < j := by omega
                    obtain ⟨dd, hdd, hc48⟩ := HM.out a haj
                    have h0 := hv.out
                    rw [show j - a = (j - (a + 1)) + 1 by omega, valG_step hc48] at h0
                    obtain ⟨b2, off2, cap3, he2, hca⟩ := HU.out.at_ (j := a) (by omega)
                    injection he2 with e21 e22 e23
                    injection e21 with e21
                    injection e21 with e24 e25
                    subst e24 e25
                    rw [HG.out a, Nat.mul_one] at hca
                    unfold ByR at hca
                    rw [hc48] at hca
                    have hs48 : (48 : Int) + (dd : Int) - 48 = (dd : Int) := by omega
                    clear hv hc48 e22 e23
                    by_cases hm1 : (most : Int) < (dd : Int)
                    · have HE := Lib.hid (H2.out (by rw [← h0, if_pos (.inl (by omega))]))
                      clear h0
                      go_wp2
                      go_returns
                      exact num_err HE.out rfl HS1.out HQ.out
                    · have hq := quo_ten most dd (by omega)
                      have hqb : (most - dd) / 10 * 10 ≤ most - dd := Nat.div_mul_le_self _ _
                      by_cases hm2 : (((most - dd) / 10 : Nat) : Int) < (n : Int)
                      · have HE := Lib.hid (H2.out (by rw [← h0, if_pos (.inr (by omega))]))
                        clear h0
                        generalize (most - dd) / 10 = q at *
                        go_wp2
                        go_returns
                        exact num_err HE.out rfl HS1.out HQ.out
                      · rw [if_neg (by omega)] at h0
                        have HV := Lib.hid h0
                        clear h0
                        generalize (most - dd) / 10 = q at *
                        have hnn : n * 10 + dd ≤ most := by omega
                        go_wp2
                        go_roundw
                        case rel => exact ⟨a + 1, n * 10 + dd, by omega, by go_num, by go_num, hnn, HV, trivial⟩
                        case measure => simp [intOf]; omega
                  · have haj : a = j := by omega
                    subst haj
                    have h0 := hv.out
                    rw [Nat.sub_self] at h0
                    have HE := Lib.hid (H3.out n h0.symm)
                    clear h0 hv
                    have hmv := HS1.out.move (m := k + a) (by have := HD.out; omega)
                    obtain ⟨v, hb, hv, -, -⟩ := HS1.out
                    obtain ⟨a2, cap2, rfl, -, -⟩ := hv.form
                    have c1 : w1.cell? ⟨r, 1, none⟩ = some (.int .i64 (k : Int)) := hb.cell 1
                    have f1 : w1.frozen? ⟨r, 1, none⟩ = false := hb.frozen 1
                    have hz : ((k + a : Nat) : Int) = (k : Int) + (a : Int) := by omega
                    rw [hz] at hmv
                    have hcg : Chg (fun i => i = r) w (w1.setCell ⟨r, 1, none⟩ (.int .i64 ((k : Int) + (a : Int)))) := HQ.out.chg ((Chg.refl (fun i => i = r) w1).setCell (p := ⟨r, 1, none⟩) (.inl rfl) _)
                    have HMV := Lib.hid hmv
                    have HCG := Lib.hid hcg
                    clear hb hv hmv hcg hz
                    go_wp2
                    go_returns
                    exact num_ok HE.out rfl HMV.out HCG.out
          · have hl2 : (57 : Int) < (c : Int) := by omega
            clear hd hj0
            obtain ⟨hm, h1, h2, h3⟩ := num_more HO.out hj1 HJ.out (by have := HD.out; omega)
            have HM := Lib.hid hm
            have h255 : (l.getD (k + 0) 0).toNat < 256 := (l.getD (k + 0) 0).toNat_lt
            have hc0 := HC0.out
            have H48 : Hid ((l.getD (k + 0) 0).toNat = 48 ↔ l.getD k 0 = 48) := Lib.hid ⟨fun h => UInt8.toNat.inj (by simpa using h), fun h => by rw [Nat.add_zero, h]; rfl⟩
            generalize (l.getD (k + 0) 0).toNat = c0 at *
            by_cases hz1 : j = 1
            · have H2 := Lib.hid (h2 (fun h => by omega))
              have H3 := Lib.hid (h3 (fun h => by omega))
              have hj2 : ¬ (1 : Int) < (j : Int) := by omega
              clear hm h1 h2 h3
              have HZ1 := Lib.hid hz1
              clear hz1
              go_wp2
              go_loopw [51, 4] (fun i n' wr => ∃ a n : Nat, a ≤ j ∧ i = .int .i64 (a : Int) ∧ n' = .int .i64 (n : Int) ∧ n ≤ most ∧ Hid (valG most l (j - a) (k + a) n = valG most l j k 0) ∧ w1 = wr) (fun i _ _ => j - (intOf i).toNat)
              case atStart => exact ⟨0, 0, Nat.zero_le _, rfl, rfl, Nat.zero_le _, Lib.hid rfl, rfl⟩
              case round =>
                obtain ⟨a, n, ha, rfl, rfl, hn, hv, rfl⟩ := hrel
                by_cases hlt2 : (a : Int) < (j : Int)
                · have haj : a < j := by omega
                  obtain ⟨dd, hdd, hc48⟩ := HM.out a haj
                  have h0 := hv.out
                  rw [show j - a = (j - (a + 1)) + 1 by omega, valG_step hc48] at h0
                  obtain ⟨b2, off2, cap3, he2, hca⟩ := HU.out.at_ (j := a) (by omega)
                  injection he2 with e21 e22 e23
                  injection e21 with e21
                  injection e21 with e24 e25
                  subst e24 e25
                  rw [HG.out a, Nat.mul_one] at hca
                  unfold ByR at hca
                  rw [hc48] at hca
                  have hs48 : (48 : Int) + (dd : Int) - 48 = (dd : Int) := by omega
                  clear hv hc48 e22 e23
                  by_cases hm1 : (most : Int) < (dd : Int)
                  · have HE := Lib.hid (H2.out (by rw [← h0, if_pos (.inl (by omega))]))
                    clear h0
                    go_wp2
                    go_returns
                    exact num_err HE.out rfl HS1.out HQ.out
                  · have hq := quo_ten most dd (by omega)
                    have hqb : (most - dd) / 10 * 10 ≤ most - dd := Nat.div_mul_le_self _ _
                    by_cases hm2 : (((most - dd) / 10 : Nat) : Int) < (n : Int)
                    · have HE := Lib.hid (H2.out (by rw [← h0, if_pos (.inr (by omega))]))
                      clear h0
                      generalize (most - dd) / 10 = q at *
                      go_wp2
                      go_returns
                      exact num_err HE.out rfl HS1.out HQ.out
                    · rw [if_neg (by omega)] at h0
                      have HV := Lib.hid h0
                      clear h0
                      generalize (most - dd) / 10 = q at *
                      have hnn : n * 10 + dd ≤ most := by omega
                      go_wp2
                      go_roundw
                      case rel => exact ⟨a + 1, n * 10 + dd, by omega, by go_num, by go_num, hnn, HV, trivial⟩
                      case measure => simp [intOf]; omega
                · have haj : a = j := by omega
                  subst haj
                  have h0 := hv.out
                  rw [Nat.sub_self] at h0
                  have HE := Lib.hid (H3.out n h0.symm)
                  clear h0 hv
                  have hmv := HS1.out.move (m := k + a) (by have := HD.out; omega)
                  obtain ⟨v, hb, hv, -, -⟩ := HS1.out
                  obtain ⟨a2, cap2, rfl, -, -⟩ := hv.form
                  have c1 : w1.cell? ⟨r, 1, none⟩ = some (.int .i64 (k : Int)) := hb.cell 1
                  have f1 : w1.frozen? ⟨r, 1, none⟩ = false := hb.frozen 1
                  have hz : ((k + a : Nat) : Int) = (k : Int) + (a : Int) := by omega
                  rw [hz] at hmv
                  have hcg : Chg (fun i => i = r) w (w1.setCell ⟨r, 1, none⟩ (.int .i64 ((k : Int) + (a : Int)))) := HQ.out.chg ((Chg.refl (fun i => i = r) w1).setCell (p := ⟨r, 1, none⟩) (.inl rfl) _)
                  have HMV := Lib.hid hmv
                  have HCG := Lib.hid hcg
                  clear hb hv hmv hcg hz
                  go_wp2
                  go_returns
                  exact num_ok HE.out rfl HMV.out HCG.out
            · have hj2 : (1 : Int) < (j : Int) := by omega
              by_cases h48 : c0 = 48
              · have HE := Lib.hid (h1 (H48.out.1 h48) (by omega))
                clear hm h1 h2 h3 hz1
                subst h48
                go_wp2
                go_returns
                exact num_err HE.out rfl HS1.out HQ.out
              · have H2 := Lib.hid (h2 (fun h => h48 (H48.out.2 h.1)))
                have H3 := Lib.hid (h3 (fun h => h48 (H48.out.2 h.1)))
                have hcb : ((c0 : Int) == 48) = false := by rw [beq_eq_false_iff_ne]; omega
                clear hm h1 h2 h3 hz1
                go_wp2
                go_loopw [51, 4] (fun i n' wr => ∃ a n : Nat, a ≤ j ∧ i = .int .i64 (a : Int) ∧ n' = .int .i64 (n : Int) ∧ n ≤ most ∧ Hid (valG most l (j - a) (k + a) n = valG most l j k 0) ∧ w1 = wr) (fun i _ _ => j - (intOf i).toNat)
                case atStart => exact ⟨0, 0, Nat.zero_le _, rfl, rfl, Nat.zero_le _, Lib.hid rfl, rfl⟩
                case round =>
                  obtain ⟨a, n, ha, rfl, rfl, hn, hv, rfl⟩ := hrel
                  by_cases hlt2 : (a : Int) < (j : Int)
                  · have haj : a < j := by omega
                    obtain ⟨dd, hdd, hc48⟩ := HM.out a haj
                    have h0 := hv.out
                    rw [show j - a = (j - (a + 1)) + 1 by omega, valG_step hc48] at h0
                    obtain ⟨b2, off2, cap3, he2, hca⟩ := HU.out.at_ (j := a) (by omega)
                    injection he2 with e21 e22 e23
                    injection e21 with e21
                    injection e21 with e24 e25
                    subst e24 e25
                    rw [HG.out a, Nat.mul_one] at hca
                    unfold ByR at hca
                    rw [hc48] at hca
                    have hs48 : (48 : Int) + (dd : Int) - 48 = (dd : Int) := by omega
                    clear hv hc48 e22 e23
                    by_cases hm1 : (most : Int) < (dd : Int)
                    · have HE := Lib.hid (H2.out (by rw [← h0, if_pos (.inl (by omega))]))
                      clear h0
                      go_wp2
                      go_returns
                      exact num_err HE.out rfl HS1.out HQ.out
                    · have hq := quo_ten most dd (by omega)
                      have hqb : (most - dd) / 10 * 10 ≤ most - dd := Nat.div_mul_le_self _ _
                      by_cases hm2 : (((most - dd) / 10 : Nat) : Int) < (n : Int)
                      · have HE := Lib.hid (H2.out (by rw [← h0, if_pos (.inr (by omega))]))
                        clear h0
                        generalize (most - dd) / 10 = q at *
                        go_wp2
                        go_returns
                        exact num_err HE.out rfl HS1.out HQ.out
                      · rw [if_neg (by omega)] at h0
                        have HV := Lib.hid h0
                        clear h0
                        generalize (most - dd) / 10 = q at *
                        have hnn : n * 10 + dd ≤ most := by omega
                        go_wp2
                        go_roundw
                        case rel => exact ⟨a + 1, n * 10 + dd, by omega, by go_num, by go_num, hnn, HV, trivial⟩
                        case measure => simp [intOf]; omega
                  · have haj : a = j := by omega
                    subst haj
                    have h0 := hv.out
                    rw [Nat.sub_self] at h0
                    have HE := Lib.hid (H3.out n h0.symm)
                    clear h0 hv
                    have hmv := HS1.out.move (m := k + a) (by have := HD.out; omega)
                    obtain ⟨v, hb, hv, -, -⟩ := HS1.out
                    obtain ⟨a2, cap2, rfl, -, -⟩ := hv.form
                    have c1 : w1.cell? ⟨r, 1, none⟩ = some (.int .i64 (k : Int)) := hb.cell 1
                    have f1 : w1.frozen? ⟨r, 1, none⟩ = false := hb.frozen 1
                    have hz : ((k + a : Nat) : Int) = (k : Int) + (a : Int) := by omega
                    rw [hz] at hmv
                    have hcg : Chg (fun i => i = r) w (w1.setCell ⟨r, 1, none⟩ (.int .i64 ((k : Int) + (a : Int)))) := HQ.out.chg ((Chg.refl (fun i => i = r) w1).setCell (p := ⟨r, 1, none⟩) (.inl rfl) _)
                    have HMV := Lib.hid hmv
                    have HCG := Lib.hid hcg
                    clear hb hv hmv hcg hz
                    go_wp2
                    go_returns
                    exact num_ok HE.out rfl HMV.out HCG.out
    · have hjd : j = d.length := by omega
      have h0 := hi.out
      rw [hjd, Nat.sub_self] at h0
      have HJ : Hid (endF l k = k + j) := Lib.hid (by rw [hjd]; exact h0.symm)
      clear hi h0
      by_cases hz : d.length = 0
      · have ho : o = .error 12 := by
          have hk : l.length ≤ k := by have := HD.out; omega
          rw [← HO.out]
          unfold numF
          rw [if_pos hk]
        have HE := Lib.hid ho
        generalize hn : d.length = n at *
        subst hjd hz
        clear ho
        go_wp2
        go_returns
        exact num_err HE.out rfl HS1.out HQ.out
      · have hc0 : ∃ b' off' cap', _ := HU.out.at_ (j := 0) (by omega)
        obtain ⟨b, off, cap', he', hc0⟩ := hc0
        injection he' with e1' e2' e3'
        subst e1' e3'
        rw [HG.out 0, Nat.zero_mul, Nat.add_zero] at hc0
        unfold ByR at hc0
        have HC0 := Lib.hid hc0
        have hj1 : 0 < j := by omega
        have hc := hc0
        clear hc0 hz e2' hjd
        obtain ⟨hm, h1, h2, h3⟩ := num_more HO.out hj1 HJ.out (by have := HD.out; omega)
        have HM := Lib.hid hm
        have h255 : (l.getD (k + 0) 0).toNat < 256 := (l.getD (k + 0) 0).toNat_lt
        have hc0 := HC0.out
        have H48 : Hid ((l.getD (k + 0) 0).toNat = 48 ↔ l.getD k 0 = 48) := Lib.hid ⟨fun h => UInt8.toNat.inj (by simpa using h), fun h => by rw [Nat.add_zero, h]; rfl⟩
        generalize (l.getD (k + 0) 0).toNat = c0 at *
        by_cases hz1 : j = 1
        · have H2 := Lib.hid (h2 (fun h => by omega))
          have H3 := Lib.hid (h3 (fun h => by omega))
          have hj2 : ¬ (1 : Int) < (j : Int) := by omega
          clear hm h1 h2 h3
          have HZ1 := Lib.hid hz1
          clear hz1
          go_wp2
          go_loopw [51, 4] (fun i n' wr => ∃ a n : Nat, a ≤ j ∧ i = .int .i64 (a : Int) ∧ n' = .int .i64 (n : Int) ∧ n ≤ most ∧ Hid (valG most l (j - a) (k + a) n = valG most l j k 0) ∧ w1 = wr) (fun i _ _ => j - (intOf i).toNat)
          case atStart => exact ⟨0, 0, Nat.zero_le _, rfl, rfl, Nat.zero_le _, Lib.hid rfl, rfl⟩
          case round =>
            obtain ⟨a, n, ha, rfl, rfl, hn, hv, rfl⟩ := hrel
            by_cases hlt2 : (a : Int) < (j : Int)
            · have haj : a < j := by omega
              obtain ⟨dd, hdd, hc48⟩ := HM.out a haj
              have h0 := hv.out
              rw [show j - a = (j - (a + 1)) + 1 by omega, valG_step hc48] at h0
              obtain ⟨b2, off2, cap3, he2, hca⟩ := HU.out.at_ (j := a) (by omega)
              injection he2 with e21 e22 e23
              injection e21 with e21
              injection e21 with e24 e25
              subst e24 e25
              rw [HG.out a, Nat.mul_one] at hca
              unfold ByR at hca
              rw [hc48] at hca
              have hs48 : (48 : Int) + (dd : Int) - 48 = (dd : Int) := by omega
              clear hv hc48 e22 e23
              by_cases hm1 : (most : Int) < (dd : Int)
              · have HE := Lib.hid (H2.out (by rw [← h0, if_pos (.inl (by omega))]))
                clear h0
                go_wp2
                go_returns
                exact num_err HE.out rfl HS1.out HQ.out
              · have hq := quo_ten most dd (by omega)
                have hqb : (most - dd) / 10 * 10 ≤ most - dd := Nat.div_mul_le_self _ _
                by_cases hm2 : (((most - dd) / 10 : Nat) : Int) < (n : Int)
                · have HE := Lib.hid (H2.out (by rw [← h0, if_pos (.inr (by omega))]))
                  clear h0
                  generalize (most - dd) / 10 = q at *
                  go_wp2
                  go_returns
                  exact num_err HE.out rfl HS1.out HQ.out
                · rw [if_neg (by omega)] at h0
                  have HV := Lib.hid h0
                  clear h0
                  generalize (most - dd) / 10 = q at *
                  have hnn : n * 10 + dd ≤ most := by omega
                  go_wp2
                  go_roundw
                  case rel => exact ⟨a + 1, n * 10 + dd, by omega, by go_num, by go_num, hnn, HV, trivial⟩
                  case measure => simp [intOf]; omega
            · have haj : a = j := by omega
              subst haj
              have h0 := hv.out
              rw [Nat.sub_self] at h0
              have HE := Lib.hid (H3.out n h0.symm)
              clear h0 hv
              have hmv := HS1.out.move (m := k + a) (by have := HD.out; omega)
              obtain ⟨v, hb, hv, -, -⟩ := HS1.out
              obtain ⟨a2, cap2, rfl, -, -⟩ := hv.form
              have c1 : w1.cell? ⟨r, 1, none⟩ = some (.int .i64 (k : Int)) := hb.cell 1
              have f1 : w1.frozen? ⟨r, 1, none⟩ = false := hb.frozen 1
              have hz : ((k + a : Nat) : Int) = (k : Int) + (a : Int) := by omega
              rw [hz] at hmv
              have hcg : Chg (fun i => i = r) w (w1.setCell ⟨r, 1, none⟩ (.int .i64 ((k : Int) + (a : Int)))) := HQ.out.chg ((Chg.refl (fun i => i = r) w1).setCell (p := ⟨r, 1, none⟩) (.inl rfl) _)
              have HMV := Lib.hid hmv
              have HCG := Lib.hid hcg
              clear hb hv hmv hcg hz
              go_wp2
              go_returns
              exact num_ok HE.out rfl HMV.out HCG.out
        · have hj2 : (1 : Int) < (j : Int) := by omega
          by_cases h48 : c0 = 48
          · have HE := Lib.hid (h1 (H48.out.1 h48) (by omega))
            clear hm h1 h2 h3 hz1
            subst h48
            go_wp2
            go_returns
            exact num_err HE.out rfl HS1.out HQ.out
          · have H2 := Lib.hid (h2 (fun h => h48 (H48.out.2 h.1)))
            have H3 := Lib.hid (h3 (fun h => h48 (H48.out.2 h.1)))
            have hcb : ((c0 : Int) == 48) = false := by rw [beq_eq_false_iff_ne]; omega
            clear hm h1 h2 h3 hz1
            go_wp2
            go_loopw [51, 4] (fun i n' wr => ∃ a n : Nat, a ≤ j ∧ i = .int .i64 (a : Int) ∧ n' = .int .i64 (n : Int) ∧ n ≤ most ∧ Hid (valG most l (j - a) (k + a) n = valG most l j k 0) ∧ w1 = wr) (fun i _ _ => j - (intOf i).toNat)
            case atStart => exact ⟨0, 0, Nat.zero_le _, rfl, rfl, Nat.zero_le _, Lib.hid rfl, rfl⟩
            case round =>
              obtain ⟨a, n, ha, rfl, rfl, hn, hv, rfl⟩ := hrel
              by_cases hlt2 : (a : Int) < (j : Int)
              · have haj : a < j := by omega
                obtain ⟨dd, hdd, hc48⟩ := HM.out a haj
                have h0 := hv.out
                rw [show j - a = (j - (a + 1)) + 1 by omega, valG_step hc48] at h0
                obtain ⟨b2, off2, cap3, he2, hca⟩ := HU.out.at_ (j := a) (by omega)
                injection he2 with e21 e22 e23
                injection e21 with e21
                injection e21 with e24 e25
                subst e24 e25
                rw [HG.out a, Nat.mul_one] at hca
                unfold ByR at hca
                rw [hc48] at hca
                have hs48 : (48 : Int) + (dd : Int) - 48 = (dd : Int) := by omega
                clear hv hc48 e22 e23
                by_cases hm1 : (most : Int) < (dd : Int)
                · have HE := Lib.hid (H2.out (by rw [← h0, if_pos (.inl (by omega))]))
                  clear h0
                  go_wp2
                  go_returns
                  exact num_err HE.out rfl HS1.out HQ.out
                · have hq := quo_ten most dd (by omega)
                  have hqb : (most - dd) / 10 * 10 ≤ most - dd := Nat.div_mul_le_self _ _
                  by_cases hm2 : (((most - dd) / 10 : Nat) : Int) < (n : Int)
                  · have HE := Lib.hid (H2.out (by rw [← h0, if_pos (.inr (by omega))]))
                    clear h0
                    generalize (most - dd) / 10 = q at *
                    go_wp2
                    go_returns
                    exact num_err HE.out rfl HS1.out HQ.out
                  · rw [if_neg (by omega)] at h0
                    have HV := Lib.hid h0
                    clear h0
                    generalize (most - dd) / 10 = q at *
                    have hnn : n * 10 + dd ≤ most := by omega
                    go_wp2
                    go_roundw
                    case rel => exact ⟨a + 1, n * 10 + dd, by omega, by go_num, by go_num, hnn, HV, trivial⟩
                    case measure => simp [intOf]; omega
              · have haj : a = j := by omega
                subst haj
                have h0 := hv.out
                rw [Nat.sub_self] at h0
                have HE := Lib.hid (H3.out n h0.symm)
                clear h0 hv
                have hmv := HS1.out.move (m := k + a) (by have := HD.out; omega)
                obtain ⟨v, hb, hv, -, -⟩ := HS1.out
                obtain ⟨a2, cap2, rfl, -, -⟩ := hv.form
                have c1 : w1.cell? ⟨r, 1, none⟩ = some (.int .i64 (k : Int)) := hb.cell 1
                have f1 : w1.frozen? ⟨r, 1, none⟩ = false := hb.frozen 1
                have hz : ((k + a : Nat) : Int) = (k : Int) + (a : Int) := by omega
                rw [hz] at hmv
                have hcg : Chg (fun i => i = r) w (w1.setCell ⟨r, 1, none⟩ (.int .i64 ((k : Int) + (a : Int)))) := HQ.out.chg ((Chg.refl (fun i => i = r) w1).setCell (p := ⟨r, 1, none⟩) (.inl rfl) _)
                have HMV := Lib.hid hmv
                have HCG := Lib.hid hcg
                clear hb hv hmv hcg hz
                go_wp2
                go_returns
                exact num_ok HE.out rfl HMV.out HCG.out
end Go.Proofs.YtnpmaphedcfnnaaDoor
