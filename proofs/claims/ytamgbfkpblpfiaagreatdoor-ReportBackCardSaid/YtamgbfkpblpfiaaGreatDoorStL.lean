/-
  Stable sorting, plain: what swaps, rotations and merges keep.
-/
import Derived.Test.YtamgbfkpblpfiaaGreatDoorRows
namespace Go.Proofs.YtamgbfkpblpfiaaGreatDoor
set_option linter.unusedVariables false
set_option linter.unusedSimpArgs false
section
variable {α : Type} (key : α → Int)
/-- Alike key by key, in the same order. -/
def Flt (xs ys : List α) : Prop := ∀ k : Int, xs.filter (fun x => decide (key x = k)) = ys.filter (fun x => decide (key x = k))
variable {key}
theorem Flt.refl (xs : List α) : Flt key xs xs := fun _ => rfl
theorem Flt.trans {a b c : List α} (h : Flt key a b) (g : Flt key b c) : Flt key a c := fun k => (h k).trans (g k)
theorem Flt.symm {a b : List α} (h : Flt key a b) : Flt key b a := fun k => (h k).symm
theorem Flt.app {a b c d : List α} (h : Flt key a b) (g : Flt key c d) : Flt key (a ++ c) (b ++ d) := fun k => by
  rw [List.filter_append, List.filter_append, h k, g k]
theorem Flt.mem {a b : List α} (h : Flt key a b) {x : α} (hx : x ∈ b) : x ∈ a := by
  have : x ∈ b.filter (fun y => decide (key y = key x)) := List.mem_filter.2 ⟨hx, by simp⟩
  rw [← h (key x)] at this
  exact (List.mem_filter.1 this).1
/-- Blocks that share no key may change places. -/
theorem Flt.rot {u v : List α} (h : ∀ x ∈ u, ∀ y ∈ v, key x ≠ key y) : Flt key (u ++ v) (v ++ u) := fun k => by
  rw [List.filter_append, List.filter_append]
  by_cases hu : u.filter (fun x => decide (key x = k)) = []
  · rw [hu]; simp
  · have hv : v.filter (fun x => decide (key x = k)) = [] := by
      rw [List.filter_eq_nil_iff]
      intro y hy hk
      apply hu
      rw [List.filter_eq_nil_iff]
      intro x hx hkx
      exact h x hx y hy ((of_decide_eq_true hkx).trans (of_decide_eq_true hk).symm)
    rw [hv]; simp
variable (key) in
def Srt (xs : List α) : Prop := xs.Pairwise fun x y => key x ≤ key y
theorem Srt.app {u v : List α} (hu : Srt key u) (hv : Srt key v) (h : ∀ x ∈ u, ∀ y ∈ v, key x ≤ key y) : Srt key (u ++ v) := List.pairwise_append.2 ⟨hu, hv, h⟩
theorem Srt.left {u v : List α} (h : Srt key (u ++ v)) : Srt key u := (List.pairwise_append.1 h).1
theorem Srt.right {u v : List α} (h : Srt key (u ++ v)) : Srt key v := (List.pairwise_append.1 h).2.1
theorem Srt.cross {u v : List α} (h : Srt key (u ++ v)) : ∀ x ∈ u, ∀ y ∈ v, key x ≤ key y := (List.pairwise_append.1 h).2.2
variable (key) in
/-- What a merge of two blocks leaves. -/
def Mrg (u v m : List α) : Prop := Flt key (u ++ v) m ∧ Srt key m
theorem Mrg.nil_left {v : List α} (h : Srt key v) : Mrg key [] v v := ⟨Flt.refl _, h⟩
theorem Mrg.nil_right {u : List α} (h : Srt key u) : Mrg key u [] u := ⟨by rw [List.append_nil]; exact Flt.refl _, h⟩
/-- The symmetric merge: both blocks parted, the middle parts change places, both halves merged. -/
theorem Mrg.sym {u1 u2 v1 v2 m1 m2 : List α} (hu : Srt key (u1 ++ u2)) (hv : Srt key (v1 ++ v2)) (hlt : ∀ x ∈ u2, ∀ y ∈ v1, key y < key x) (hle : ∀ x ∈ u1, ∀ y ∈ v2, key x ≤ key y)
    (h1 : Mrg key u1 v1 m1) (h2 : Mrg key u2 v2 m2) : Mrg key (u1 ++ u2) (v1 ++ v2) (m1 ++ m2) := by
  have hrot : Flt key (u2 ++ v1) (v1 ++ u2) := Flt.rot fun x hx y hy e => by have := hlt x hx y hy; omega
  refine ⟨?_, h1.2.app h2.2 fun x hx y hy => ?_⟩
  · have a : Flt key (u1 ++ u2 ++ (v1 ++ v2)) (u1 ++ v1 ++ (u2 ++ v2)) := by
      have := (Flt.refl (key := key) u1).app (hrot.app (Flt.refl v2))
      simpa [List.append_assoc] using this
    exact a.trans (h1.1.app h2.1)
  · have hx := h1.1.mem hx
    have hy := h2.1.mem hy
    rcases List.mem_append.1 hx with hx | hx <;> rcases List.mem_append.1 hy with hy | hy
    · exact hu.cross x hx y hy
    · exact hle x hx y hy
    · have := hlt y hy x hx; omega
    · exact hv.cross x hx y hy
/-- One element into a block behind it. -/
theorem Mrg.one_left {x : α} {v1 v2 : List α} (hv : Srt key (v1 ++ v2)) (h1 : ∀ y ∈ v1, key y < key x) (h2 : ∀ y ∈ v2, key x ≤ key y) : Mrg key [x] (v1 ++ v2) (v1 ++ x :: v2) := by
  refine ⟨?_, ?_⟩
  · have := (Flt.rot (key := key) (u := [x]) (v := v1) fun a ha b hb e => by simp at ha; subst ha; have := h1 b hb; omega).app (Flt.refl v2)
    simpa [List.append_assoc] using this
  · refine hv.left.app (List.pairwise_cons.2 ⟨h2, hv.right⟩) fun a ha b hb => ?_
    rcases List.mem_cons.1 hb with rfl | hb
    · have := h1 a ha; omega
    · exact hv.cross a ha b hb
/-- One element into a block ahead of it. -/
theorem Mrg.one_right {y : α} {u1 u2 : List α} (hu : Srt key (u1 ++ u2)) (h1 : ∀ x ∈ u1, key x ≤ key y) (h2 : ∀ x ∈ u2, key y < key x) : Mrg key (u1 ++ u2) [y] (u1 ++ y :: u2) := by
  refine ⟨?_, ?_⟩
  · have := (Flt.refl (key := key) u1).app (Flt.rot (key := key) (u := u2) (v := [y]) fun a ha b hb e => by simp at hb; subst hb; have := h2 a ha; omega)
    simpa [List.append_assoc] using this
  · refine hu.left.app (List.pairwise_cons.2 ⟨fun b hb => by have := h2 b hb; omega, hu.right⟩) fun a ha b hb => ?_
    rcases List.mem_cons.1 hb with rfl | hb
    · exact h1 a ha
    · exact hu.cross a ha b hb
/-- Sorted, and alike key by key: one list alone. -/
theorem srt_uniq : ∀ {xs ys : List α}, Srt key xs → Srt key ys → Flt key xs ys → xs = ys
  | [], ys, _, _, h => by
    cases ys with
    | nil => rfl
    | cons y ys =>
      have := h.mem (List.mem_cons_self (a := y) (l := ys))
      simp at this
  | x :: xs, ys, hx, hy, h => by
    cases ys with
    | nil =>
      have := h.symm.mem (List.mem_cons_self (a := x) (l := xs))
      simp at this
    | cons y ys =>
      have hyx : key y = key x := by
        have h1 : key x ≤ key y := by
          have := h.mem (List.mem_cons_self (a := y) (l := ys))
          rcases List.mem_cons.1 this with rfl | hm
          · exact Int.le_refl _
          · exact (List.pairwise_cons.1 hx).1 y hm
        have h2 : key y ≤ key x := by
          have := h.symm.mem (List.mem_cons_self (a := x) (l := xs))
          rcases List.mem_cons.1 this with rfl | hm
          · exact Int.le_refl _
          · exact (List.pairwise_cons.1 hy).1 x hm
        omega
      have hk := h (key x)
      rw [List.filter_cons, List.filter_cons, if_pos (by simp), if_pos (by simp [hyx])] at hk
      injection hk with e1 e2
      subst e1
      have hrest : Flt key xs ys := fun k => by
        have := h k
        rw [List.filter_cons, List.filter_cons] at this
        by_cases hkk : key x = k
        · rw [if_pos (by simp [hkk]), if_pos (by simp [hkk])] at this
          injection this
        · rw [if_neg (by simp [hkk]), if_neg (by simp [hkk])] at this
          exact this
      rw [srt_uniq (List.pairwise_cons.1 hx).2 (List.pairwise_cons.1 hy).2 hrest]
end
end Go.Proofs.YtamgbfkpblpfiaaGreatDoor
/-
  Stable sorting, plain: swaps, rotations, insertions on lists; sorted blocks.
-/
namespace Go.Proofs.YtamgbfkpblpfiaaGreatDoor
set_option linter.unusedVariables false
section
variable {α : Type} (d : α)
def swp (L : List α) (i j : Nat) : List α := (L.set i (L.getD j d)).set j (L.getD i d)
theorem swp_length (L : List α) (i j : Nat) : (swp d L i j).length = L.length := by simp [swp]
theorem swp_comm (L : List α) {i j : Nat} (h : i ≠ j) : swp d L i j = swp d L j i := by
  unfold swp
  exact List.set_comm _ _ h
theorem swp_at (P Q R : List α) (x y : α) : swp d (P ++ x :: (Q ++ y :: R)) P.length (P.length + 1 + Q.length) = P ++ y :: (Q ++ x :: R) := by
  have e1 : (P ++ x :: (Q ++ y :: R)).getD P.length d = x := by simp [List.getD]
  have e2 : (P ++ x :: (Q ++ y :: R)).getD (P.length + 1 + Q.length) d = y := by
    simp only [List.getD]
    rw [List.getElem?_append_right (by omega), show P.length + 1 + Q.length - P.length = Q.length + 1 by omega, List.getElem?_cons_succ, List.getElem?_append_right (Nat.le_refl _)]
    simp
  unfold swp
  rw [e1, e2]
  rw [List.set_append_right _ _ (Nat.le_refl _), Nat.sub_self, List.set_cons_zero]
  rw [List.set_append_right _ _ (by omega), show P.length + 1 + Q.length - P.length = Q.length + 1 by omega, List.set_cons_succ]
  rw [List.set_append_right _ _ (Nat.le_refl _), Nat.sub_self, List.set_cons_zero]
def swR (L : List α) (a b : Nat) : Nat → List α
  | 0 => L
  | i + 1 => swp d (swR L a b i) (a + i) (b + i)
theorem swR_length (L : List α) (a b : Nat) : ∀ n, (swR d L a b n).length = L.length
  | 0 => rfl
  | n + 1 => by rw [swR, swp_length, swR_length L a b n]
theorem swR_at (P A M B S : List α) (h : A.length = B.length) : ∀ i, i ≤ A.length → swR d (P ++ A ++ M ++ B ++ S) P.length (P.length + A.length + M.length) i = P ++ B.take i ++ A.drop i ++ M ++ A.take i ++ B.drop i ++ S
  | 0, _ => by simp [swR]
  | i + 1, hi => by
    rw [swR, swR_at P A M B S h i (by omega)]
    rw [List.drop_eq_getElem_cons (l := A) (i := i) (by omega), List.drop_eq_getElem_cons (l := B) (i := i) (by omega)]
    have hP : (P ++ B.take i).length = P.length + i := by rw [List.length_append, List.length_take]; omega
    have hQ : (A.drop (i + 1) ++ M ++ A.take i).length = A.length - (i + 1) + M.length + i := by
      rw [List.length_append, List.length_append, List.length_drop, List.length_take]; omega
    have e := swp_at d (P ++ B.take i) (A.drop (i + 1) ++ M ++ A.take i) (B.drop (i + 1) ++ S) (A[i]'(by omega)) (B[i]'(by omega))
    rw [hP, hQ, show P.length + i + 1 + (A.length - (i + 1) + M.length + i) = P.length + A.length + M.length + i by omega] at e
    have e1 : P ++ B.take i ++ A[i]'(by omega) :: A.drop (i + 1) ++ M ++ A.take i ++ B[i]'(by omega) :: B.drop (i + 1) ++ S = P ++ B.take i ++ A[i]'(by omega) :: (A.drop (i + 1) ++ M ++ A.take i ++ B[i]'(by omega) :: (B.drop (i + 1) ++ S)) := by simp only [List.append_assoc, List.cons_append]
    rw [e1, e]
    rw [List.take_succ_eq_append_getElem (l := A) (by omega), List.take_succ_eq_append_getElem (l := B) (by omega)]
    simp only [List.append_assoc, List.cons_append, List.nil_append]
theorem swR_all (P A M B S : List α) (h : A.length = B.length) (a b n : Nat) (ha : a = P.length) (hb : b = P.length + A.length + M.length) (hn : n = A.length) : swR d (P ++ A ++ M ++ B ++ S) a b n = P ++ B ++ M ++ A ++ S := by
  subst ha hb hn
  rw [swR_at d P A M B S h _ (Nat.le_refl _)]
  rw [List.drop_eq_nil_of_le (Nat.le_refl _), List.take_of_length_le (Nat.le_refl _), List.take_of_length_le (by omega), List.drop_eq_nil_of_le (by omega)]
  simp
def rotG (m : Nat) : Nat → List α → Nat → Nat → List α
  | 0, L, i, j => swR d L (m - i) m i
  | f + 1, L, i, j => if i = j then swR d L (m - i) m i else if j < i then rotG m f (swR d L (m - i) m j) (i - j) j else rotG m f (swR d L (m - i) (m + j - i) i) i (j - i)
theorem rotG_at (m : Nat) : ∀ (f : Nat) (P U V S : List α), P.length + U.length = m → 0 < U.length → 0 < V.length → U.length + V.length ≤ f → rotG d m f (P ++ U ++ V ++ S) U.length V.length = P ++ V ++ U ++ S
  | 0, P, U, V, S, h, hu, hv, hf => by omega
  | f + 1, P, U, V, S, h, hu, hv, hf => by
    unfold rotG
    by_cases e : U.length = V.length
    · rw [if_pos e]
      have := swR_all d P U [] V S e (m - U.length) m U.length (by omega) (by simp; omega) rfl
      simpa using this
    · rw [if_neg e]
      by_cases hlt : V.length < U.length
      · rw [if_pos hlt]
        obtain ⟨U1, U2, rfl, hU1⟩ : ∃ U1 U2, U = U1 ++ U2 ∧ U1.length = V.length := ⟨U.take V.length, U.drop V.length, (List.take_append_drop _ _).symm, by rw [List.length_take]; omega⟩
        rw [List.length_append] at *
        have e1 := swR_all d P U1 U2 V S hU1 (m - (U1.length + U2.length)) m V.length (by omega) (by omega) hU1.symm
        have e2 : P ++ (U1 ++ U2) ++ V ++ S = P ++ U1 ++ U2 ++ V ++ S := by simp
        rw [e2, e1]
        have e3 := rotG_at m f (P ++ V) U2 U1 S (by rw [List.length_append]; omega) (by omega) (by omega) (by omega)
        rw [hU1] at e3
        rw [show U1.length + U2.length - V.length = U2.length by omega, e3]
        simp
      · rw [if_neg hlt]
        obtain ⟨V1, V2, rfl, hV2⟩ : ∃ V1 V2, V = V1 ++ V2 ∧ V2.length = U.length := ⟨V.take (V.length - U.length), V.drop (V.length - U.length), (List.take_append_drop _ _).symm, by rw [List.length_drop]; omega⟩
        rw [List.length_append] at *
        have e1 := swR_all d P U V1 V2 S hV2.symm (m - U.length) (m + (V1.length + V2.length) - U.length) U.length (by omega) (by omega) rfl
        have e2 : P ++ U ++ (V1 ++ V2) ++ S = P ++ U ++ V1 ++ V2 ++ S := by simp
        rw [e2, e1]
        have e3 := rotG_at m f P V2 V1 (U ++ S) (by omega) (by omega) (by omega) (by omega)
        rw [hV2] at e3
        have e4 : P ++ V2 ++ V1 ++ U ++ S = P ++ V2 ++ V1 ++ (U ++ S) := by simp
        rw [show V1.length + V2.length - U.length = V1.length by omega, e4, e3]
        simp
variable (key : α → Int)
def insJ (a : Nat) : Nat → List α → List α
  | 0, L => L
  | j + 1, L => if a < j + 1 ∧ key (L.getD (j + 1) d) < key (L.getD j d) then insJ a j (swp d L (j + 1) j) else L
theorem insJ_at (P : List α) (x : α) : ∀ (n : Nat) (U S : List α), U.length = n → Srt key U → ∃ M, insJ d key P.length (P.length + n) (P ++ U ++ x :: S) = P ++ M ++ S ∧ Mrg key U [x] M
  | 0, U, S, hn, hs => by
    obtain rfl := List.eq_nil_of_length_eq_zero hn
    refine ⟨[x], ?_, by simpa using Flt.refl _, by simp [Srt]⟩
    cases hp : P.length + 0 with
    | zero => simp [insJ]
    | succ j => rw [insJ, if_neg (by omega)]; simp
  | n + 1, U, S, hn, hs => by
    obtain ⟨U', z, rfl⟩ : ∃ U' z, U = U' ++ [z] := by
      rcases List.eq_nil_or_concat U with e | ⟨U', z, e⟩
      · rw [e] at hn; simp at hn
      · exact ⟨U', z, by rw [e, List.concat_eq_append]⟩
    have hU' : U'.length = n := by simpa using hn
    have hj : P.length + (n + 1) = (P ++ U').length + 1 := by rw [List.length_append]; omega
    have e1 : P ++ (U' ++ [z]) ++ x :: S = (P ++ U') ++ z :: ([] ++ x :: S) := by simp
    have g1 : (P ++ (U' ++ [z]) ++ x :: S).getD (P.length + n + 1) d = x := by
      rw [e1]
      simp only [List.getD]
      rw [List.getElem?_append_right (by rw [List.length_append]; omega), show P.length + n + 1 - (P ++ U').length = 1 by rw [List.length_append]; omega]
      rfl
    have g0 : (P ++ (U' ++ [z]) ++ x :: S).getD (P.length + n) d = z := by
      rw [e1]
      simp only [List.getD]
      rw [List.getElem?_append_right (by rw [List.length_append]; omega), show P.length + n - (P ++ U').length = 0 by rw [List.length_append]; omega]
      rfl
    rw [show P.length + (n + 1) = P.length + n + 1 by omega, insJ, g1, g0]
    by_cases hlt : key x < key z
    · rw [if_pos ⟨by omega, hlt⟩]
      have hsw := swp_at d (P ++ U') [] S z x
      rw [← e1, swp_comm d _ (by simp)] at hsw
      have hl : (P ++ U').length = P.length + n := by rw [List.length_append, hU']
      rw [hl] at hsw
      simp only [List.length_nil, Nat.add_zero, List.nil_append] at hsw
      rw [hsw]
      obtain ⟨M, hM, hm1, hm2⟩ := insJ_at P x n U' (z :: S) hU' hs.left
      refine ⟨M ++ [z], ?_, ?_, ?_⟩
      · rw [hM]; simp
      · have r : Flt key ([z] ++ [x]) ([x] ++ [z]) := Flt.rot (fun a ha b hb e => by simp at ha hb; subst ha hb; omega)
        have a1 : Flt key (U' ++ [z] ++ [x]) (U' ++ [x] ++ [z]) := by
          have := (Flt.refl (key := key) U').app r
          simpa using this
        exact a1.trans (hm1.app (Flt.refl [z]))
      · refine hm2.app (by simp [Srt]) fun a ha b hb => ?_
        simp at hb
        subst hb
        have ha := hm1.mem ha
        rcases List.mem_append.1 ha with ha | ha
        · exact hs.cross a ha b (by simp)
        · simp at ha; subst ha; omega
    · rw [if_neg (fun h => hlt h.2)]
      refine ⟨U' ++ [z] ++ [x], by simp, Flt.refl _, hs.app (by simp [Srt]) fun a ha b hb => ?_⟩
      simp at hb
      subst hb
      rcases List.mem_append.1 ha with ha | ha
      · have := hs.cross a ha z (by simp); omega
      · simp at ha; subst ha; omega
/-- Sorted block by block. -/
def BS (L : List α) (s : Nat) : Prop := ∀ q, Srt key ((L.drop (q * s)).take s)
variable {key}
theorem BS.nil (s : Nat) : BS key [] s := fun q => by simp [Srt]
theorem BS.one {X : List α} {s : Nat} (hx : X.length ≤ s) (h : Srt key X) : BS key X s := fun q => by
  cases q with
  | zero => rw [Nat.zero_mul, List.drop_zero, List.take_of_length_le hx]; exact h
  | succ q =>
    rw [List.drop_eq_nil_of_le (by rw [Nat.succ_mul]; omega)]
    simp [Srt]
theorem BS.app {D X : List α} {s q : Nat} (hD : D.length = q * s) (h : BS key D s) (g : BS key X s) : BS key (D ++ X) s := fun r => by
  by_cases hr : r < q
  · have hle : r * s + s ≤ q * s := by rw [← Nat.succ_mul]; exact Nat.mul_le_mul_right s hr
    rw [List.drop_append_of_le_length (by omega), List.take_append_of_le_length (by rw [List.length_drop]; omega)]
    exact h r
  · have hle : q * s ≤ r * s := Nat.mul_le_mul_right s (by omega)
    rw [List.drop_append, List.drop_eq_nil_of_le (by omega), List.nil_append, hD, ← Nat.sub_mul]
    exact g (r - q)
theorem BS.split {R : List α} {s : Nat} (h : BS key R s) (hl : s ≤ R.length) : ∃ A R', R = A ++ R' ∧ A.length = s ∧ Srt key A ∧ BS key R' s := by
  refine ⟨R.take s, R.drop s, (List.take_append_drop _ _).symm, by rw [List.length_take]; omega, by have := h 0; simpa using this, fun q => ?_⟩
  have := h (q + 1)
  rw [Nat.succ_mul] at this
  rw [List.drop_drop, Nat.add_comm]
  exact this
theorem BS.head {R : List α} {s : Nat} (h : BS key R s) (hl : R.length ≤ s) : Srt key R := by
  have := h 0
  rw [Nat.zero_mul, List.drop_zero, List.take_of_length_le hl] at this
  exact this
theorem getD_el {L : List α} {i : Nat} (h : i < L.length) : L.getD i d = L[i] := by simp [List.getD, h]
theorem take_le {U : List α} (hs : Srt key U) {u : Nat} (hu : u ≤ U.length) (h0 : 0 < u) : ∀ x ∈ U.take u, key x ≤ key (U.getD (u - 1) d) := by
  intro x hx
  obtain ⟨i, hi, rfl⟩ := List.mem_iff_getElem.1 hx
  rw [List.length_take] at hi
  rw [List.getElem_take, getD_el d (by omega)]
  by_cases e : i = u - 1
  · subst e; exact Int.le_refl _
  · exact List.pairwise_iff_getElem.1 hs i (u - 1) (by omega) (by omega) (by omega)
theorem drop_ge {U : List α} (hs : Srt key U) {u : Nat} (hu : u < U.length) : ∀ x ∈ U.drop u, key (U.getD u d) ≤ key x := by
  intro x hx
  obtain ⟨i, hi, rfl⟩ := List.mem_iff_getElem.1 hx
  rw [List.length_drop] at hi
  rw [List.getElem_drop, getD_el d hu]
  by_cases e : i = 0
  · subst e; exact Int.le_refl _
  · exact List.pairwise_iff_getElem.1 hs u (u + i) (by omega) (by omega) (by omega)
theorem drop_none {U : List α} {x : α} {u : Nat} (h : ¬ u < U.length) (hx : x ∈ U.drop u) : False := by
  rw [List.drop_eq_nil_of_le (by omega)] at hx
  simp at hx
theorem take_none {U : List α} {x : α} {u : Nat} (h : u = 0) (hx : x ∈ U.take u) : False := by
  subst h
  simp at hx
/-- Where the symmetric search ends, the middle parts may change places. -/
theorem sym_ok {U V : List α} (hu : Srt key U) (hv : Srt key V) (u v : Nat) (hul : u ≤ U.length) (hvl : v ≤ V.length)
    (hA : u = 0 ∨ v = V.length ∨ key (U.getD (u - 1) d) ≤ key (V.getD v d)) (hB : u = U.length ∨ v = 0 ∨ key (V.getD (v - 1) d) < key (U.getD u d)) :
    (∀ x ∈ U.drop u, ∀ y ∈ V.take v, key y < key x) ∧ ∀ x ∈ U.take u, ∀ y ∈ V.drop v, key x ≤ key y := by
  constructor
  · intro x hx y hy
    by_cases h1 : u < U.length
    · by_cases h2 : v = 0
      · exact (take_none h2 hy).elim
      · have := drop_ge d hu h1 x hx
        have := take_le d hv hvl (by omega) y hy
        rcases hB with h | h | h <;> omega
    · exact (drop_none h1 hx).elim
  · intro x hx y hy
    by_cases h1 : u = 0
    · exact (take_none h1 hx).elim
    · by_cases h2 : v < V.length
      · have := take_le d hu hul (by omega) x hx
        have := drop_ge d hv h2 y hy
        rcases hA with h | h | h <;> omega
      · exact (drop_none h2 hy).elim
theorem one_left_ok {V : List α} (hv : Srt key V) (k : Int) (i : Nat) (hi : i ≤ V.length) (hA : i = 0 ∨ key (V.getD (i - 1) d) < k) (hB : i = V.length ∨ k ≤ key (V.getD i d)) :
    (∀ y ∈ V.take i, key y < k) ∧ ∀ y ∈ V.drop i, k ≤ key y := by
  constructor
  · intro y hy
    by_cases h : i = 0
    · exact (take_none h hy).elim
    · have := take_le d hv hi (by omega) y hy
      rcases hA with h | h <;> omega
  · intro y hy
    by_cases h : i < V.length
    · have := drop_ge d hv h y hy
      rcases hB with h | h <;> omega
    · exact (drop_none h hy).elim
theorem one_right_ok {U : List α} (hu : Srt key U) (k : Int) (i : Nat) (hi : i ≤ U.length) (hA : i = 0 ∨ key (U.getD (i - 1) d) ≤ k) (hB : i = U.length ∨ k < key (U.getD i d)) :
    (∀ x ∈ U.take i, key x ≤ k) ∧ ∀ x ∈ U.drop i, k < key x := by
  constructor
  · intro y hy
    by_cases h : i = 0
    · exact (take_none h hy).elim
    · have := take_le d hu hi (by omega) y hy
      rcases hA with h | h <;> omega
  · intro y hy
    by_cases h : i < U.length
    · have := drop_ge d hu h y hy
      rcases hB with h | h <;> omega
    · exact (drop_none h hy).elim
def mvR (L : List α) (a : Nat) : Nat → List α
  | 0 => L
  | n + 1 => swp d (mvR L a n) (a + n) (a + n + 1)
theorem mvR_length (L : List α) (a : Nat) : ∀ n, (mvR d L a n).length = L.length
  | 0 => rfl
  | n + 1 => by rw [mvR, swp_length, mvR_length L a n]
theorem mvR_at (P V S : List α) (x : α) : ∀ n, n ≤ V.length → mvR d (P ++ x :: (V ++ S)) P.length n = P ++ V.take n ++ x :: (V.drop n ++ S)
  | 0, _ => by simp [mvR]
  | n + 1, hn => by
    rw [mvR, mvR_at P V S x n (by omega), List.drop_eq_getElem_cons (l := V) (i := n) (by omega)]
    have hP : (P ++ V.take n).length = P.length + n := by rw [List.length_append, List.length_take]; omega
    have e := swp_at d (P ++ V.take n) [] (V.drop (n + 1) ++ S) x (V[n]'(by omega))
    rw [hP] at e
    simp only [List.nil_append, List.length_nil, Nat.add_zero] at e
    rw [List.cons_append, e, List.take_succ_eq_append_getElem (by omega)]
    simp only [List.append_assoc, List.cons_append, List.nil_append]
def mvL (L : List α) (m : Nat) : Nat → List α
  | 0 => L
  | n + 1 => swp d (mvL L m n) (m - n) (m - n - 1)
theorem mvL_length (L : List α) (m : Nat) : ∀ n, (mvL d L m n).length = L.length
  | 0 => rfl
  | n + 1 => by rw [mvL, swp_length, mvL_length L m n]
theorem mvL_at (P U S : List α) (y : α) : ∀ n, n ≤ U.length → mvL d (P ++ U ++ y :: S) (P.length + U.length) n = P ++ U.take (U.length - n) ++ y :: (U.drop (U.length - n) ++ S)
  | 0, _ => by simp [mvL]
  | n + 1, hn => by
    rw [mvL, mvL_at P U S y n (by omega)]
    have hk : U.length - n = (U.length - (n + 1)) + 1 := by omega
    have hP : (P ++ U.take (U.length - (n + 1))).length = P.length + U.length - n - 1 := by rw [List.length_append, List.length_take]; omega
    have e := swp_at d (P ++ U.take (U.length - (n + 1))) [] (U.drop (U.length - n) ++ S) (U[U.length - (n + 1)]'(by omega)) y
    rw [hP] at e
    simp only [List.nil_append, List.length_nil, Nat.add_zero] at e
    have ht : U.take (U.length - n) = U.take (U.length - (n + 1)) ++ [U[U.length - (n + 1)]'(by omega)] := by
      conv => lhs; rw [hk]
      exact List.take_succ_eq_append_getElem (by omega)
    have hd : U.drop (U.length - (n + 1)) = U[U.length - (n + 1)]'(by omega) :: U.drop (U.length - n) := by
      rw [List.drop_eq_getElem_cons (l := U) (i := U.length - (n + 1)) (by omega), ← hk]
    rw [ht, hd, swp_comm d _ (by omega)]
    rw [show P.length + U.length - n = P.length + U.length - n - 1 + 1 by omega]
    have e1 : P ++ (U.take (U.length - (n + 1)) ++ [U[U.length - (n + 1)]'(by omega)]) ++ y :: (U.drop (U.length - n) ++ S) = P ++ U.take (U.length - (n + 1)) ++ U[U.length - (n + 1)]'(by omega) :: y :: (U.drop (U.length - n) ++ S) := by simp only [List.append_assoc, List.cons_append, List.nil_append]
    rw [e1, show P.length + U.length - n - 1 + 1 - 1 = P.length + U.length - n - 1 by omega, e]
    simp only [List.append_assoc, List.cons_append]
end
end Go.Proofs.YtamgbfkpblpfiaaGreatDoor
