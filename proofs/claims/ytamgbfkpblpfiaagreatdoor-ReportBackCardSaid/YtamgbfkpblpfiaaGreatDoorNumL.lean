/-
  Numbers of a text, plain: the program's way and the document's are one.
-/
import Derived.Lib.ItoaNum
namespace Go.Proofs.YtamgbfkpblpfiaaGreatDoor
/-- One digit more. -/
def stepU (n : Nat) (c : UInt8) : Option Nat := if 48 ≤ c.toNat ∧ c.toNat ≤ 57 ∧ n * 10 + (c.toNat - 48) ≤ 18446744073709551615 then some (n * 10 + (c.toNat - 48)) else none
def valU : Nat → List UInt8 → Option Nat
  | n, [] => some n
  | n, c :: l => match stepU n c with | some m => valU m l | none => none
/-- The number of a text. -/
def numU (l : List UInt8) : Option Nat := if l = [] ∨ (1 < l.length ∧ l.getD 0 0 = 48) then none else valU 0 l
def ansU (o : Option Nat) : Nat × Bool := match o with | some n => (n, true) | none => (0, false)
theorem stepU_le {n m : Nat} {c : UInt8} (h : stepU n c = some m) : m = n * 10 + (c.toNat - 48) ∧ 48 ≤ c.toNat ∧ c.toNat ≤ 57 ∧ m ≤ 18446744073709551615 := by
  unfold stepU at h
  split at h
  · simp at h; omega
  · simp at h
theorem valU_snoc : ∀ (l : List UInt8) (n : Nat) (c : UInt8), valU n (l ++ [c]) = match valU n l with | some m => stepU m c | none => none
  | [], n, c => by simp only [List.nil_append, valU]; cases stepU n c <;> rfl
  | a :: l, n, c => by
    simp only [List.cons_append, valU]
    cases stepU n a with
    | none => rfl
    | some m => exact valU_snoc l m c
theorem valU_le : ∀ (l : List UInt8) (n m : Nat), n ≤ 18446744073709551615 → valU n l = some m → m ≤ 18446744073709551615
  | [], n, m, h, e => by simp [valU] at e; omega
  | a :: l, n, m, h, e => by
    simp only [valU] at e
    cases hs : stepU n a with
    | none => rw [hs] at e; simp at e
    | some k => rw [hs] at e; exact valU_le l k m (stepU_le hs).2.2.2 e
theorem dec_snoc (m d : Nat) (hd : d < 10) (hm : 0 < m) : Lib.decDigits (m * 10 + d) = Lib.decDigits m ++ [UInt8.ofNat (48 + d)] := by
  rw [Lib.decDigits, dif_neg (by omega)]
  have h1 : (m * 10 + d) / 10 = m := by omega
  have h2 : (m * 10 + d) % 10 = d := by omega
  rw [h1, h2]
theorem dec_ne (u : Nat) : Lib.decDigits u ≠ [] := by
  rw [Lib.decDigits]
  split <;> simp
theorem byte_of {c : UInt8} (h0 : 48 ≤ c.toNat) : UInt8.ofNat (48 + (c.toNat - 48)) = c := by
  have : 48 + (c.toNat - 48) = c.toNat := by omega
  rw [this]
  exact UInt8.ofNat_toNat
theorem snoc_induct {α : Type} {P : List α → Prop} (h0 : P []) (h1 : ∀ l a, P l → P (l ++ [a])) (l : List α) : P l := by
  have : ∀ m : List α, P m.reverse := by
    intro m
    induction m with
    | nil => exact h0
    | cons a m ih => rw [List.reverse_cons]; exact h1 _ _ ih
  have := this l.reverse
  rwa [List.reverse_reverse] at this
theorem getD0_app {l : List UInt8} (h : l ≠ []) (c : UInt8) : (l ++ [c]).getD 0 0 = l.getD 0 0 := by
  cases l with
  | nil => exact absurd rfl h
  | cons a l => rfl
/-- What digits tell. -/
def Told (l : List UInt8) : Prop := l ≠ [] → ∀ n, valU 0 l = some n → (l.getD 0 0 ≠ 48 → 0 < n) ∧ (¬ (1 < l.length ∧ l.getD 0 0 = 48) → Lib.decDigits n = l) ∧ ((1 < l.length ∧ l.getD 0 0 = 48) → (Lib.decDigits n).length < l.length)
theorem told_all (l : List UInt8) : Told l := by
  refine snoc_induct (P := Told) (fun h => absurd rfl h) ?_ l
  intro l c ih _ n hn
  rw [valU_snoc] at hn
  cases hl : valU 0 l with
  | none => rw [hl] at hn; simp at hn
  | some m =>
    rw [hl] at hn
    obtain ⟨rfl, h0, h1, -⟩ := stepU_le hn
    by_cases he : l = []
    · subst he
      simp [valU] at hl
      subst hl
      refine ⟨fun h => ?_, fun _ => ?_, fun h => by simp at h⟩
      · simp only [List.nil_append, List.getD_cons_zero] at h
        have : c.toNat ≠ 48 := fun e => h (UInt8.toNat.inj (by simpa using e))
        omega
      · rw [show 0 * 10 + (c.toNat - 48) = c.toNat - 48 by omega, Lib.decDigits, dif_pos (by omega), byte_of h0]
        rfl
    · obtain ⟨i1, i2, i3⟩ := ih he m hl
      have hlen : 0 < l.length := List.length_pos_iff.2 he
      rw [getD0_app he, List.length_append, List.length_singleton]
      by_cases hz : l.getD 0 0 = 48
      · refine ⟨fun h => absurd hz h, fun h => absurd ⟨by omega, hz⟩ h, fun _ => ?_⟩
        by_cases hm : m = 0
        · subst hm
          rw [show 0 * 10 + (c.toNat - 48) = c.toNat - 48 by omega, Lib.decDigits, dif_pos (by omega)]
          simp
          omega
        · rw [dec_snoc m _ (by omega) (by omega), List.length_append, List.length_singleton]
          by_cases h1l : 1 < l.length
          · have := i3 ⟨h1l, hz⟩; omega
          · exfalso
            have hll : l.length = 1 := by omega
            have hd : Lib.decDigits m = l := i2 (fun h => by omega)
            obtain ⟨a, rfl⟩ := List.length_eq_one_iff.1 hll
            simp only [List.getD_cons_zero] at hz
            subst hz
            simp only [valU] at hl
            have : stepU 0 48 = some 0 := by decide
            rw [this] at hl
            simp at hl
            omega
      · have hm := i1 hz
        refine ⟨fun _ => by omega, fun _ => ?_, fun h => absurd h.2 hz⟩
        rw [dec_snoc m _ (by omega) hm, i2 (fun h => hz h.2), byte_of h0]
/-- The document's number. -/
def numR (l : List UInt8) : Option Nat := if l = [] ∨ 20 < l.length then none else match valU 0 l with | some n => if Lib.decDigits n = l then some n else none | none => none
theorem dlen : ∀ (k u : Nat), u < 10 ^ (k + 1) → (Lib.decDigits u).length ≤ k + 1
  | 0, u, h => by rw [Lib.decDigits, dif_pos (by simpa using h)]; simp
  | k + 1, u, h => by
    rw [Lib.decDigits]
    split
    · simp
    · rw [List.length_append]
      have := dlen k (u / 10) (by rw [Nat.pow_succ] at h; omega)
      simp
      omega
theorem numU_eq_numR (l : List UInt8) : numU l = numR l := by
  unfold numU numR
  by_cases he : l = []
  · rw [if_pos (.inl he), if_pos (.inl he)]
  cases hv : valU 0 l with
  | none => split <;> split <;> rfl
  | some n =>
    obtain ⟨-, i2, i3⟩ := told_all l he n hv
    have hn := valU_le l 0 n (by omega) hv
    have hd := dlen 19 n (by omega)
    by_cases hz : 1 < l.length ∧ l.getD 0 0 = 48
    · have h3 := i3 hz
      rw [if_pos (.inr hz)]
      split
      · rfl
      · simp only
        rw [if_neg (fun e => by rw [e] at h3; omega)]
    · have h2 := i2 hz
      rw [h2] at hd
      rw [if_neg (fun h => h.elim he hz), if_neg (fun h => h.elim he (by omega))]
      simp only
      rw [if_pos h2]
/-- A number's own text. -/
theorem dec_head : ∀ (u : Nat), 10 ≤ u → (Lib.decDigits u).getD 0 0 ≠ 48 := by
  intro u
  induction u using Nat.strongRecOn with
  | _ u ih =>
    intro hu
    have e : u = u / 10 * 10 + u % 10 := by omega
    rw [e, dec_snoc (u / 10) (u % 10) (by omega) (by omega), getD0_app (dec_ne _)]
    by_cases h : 10 ≤ u / 10
    · exact ih (u / 10) (by omega) h
    · rw [Lib.decDigits_one (by omega)]
      simp only [List.getD_cons_zero]
      intro hc
      have := congrArg UInt8.toNat hc
      rw [UInt8.toNat_ofNat'] at this
      simp at this
      omega
theorem val_dec : ∀ (u : Nat), u ≤ 18446744073709551615 → valU 0 (Lib.decDigits u) = some u := by
  intro u
  induction u using Nat.strongRecOn with
  | _ u ih =>
    intro hu
    by_cases h : u < 10
    · rw [Lib.decDigits_one h]
      simp only [valU]
      have : stepU 0 (UInt8.ofNat (48 + u)) = some u := by
        unfold stepU
        have e : (UInt8.ofNat (48 + u)).toNat = 48 + u := by rw [UInt8.toNat_ofNat']; omega
        rw [e, if_pos (by omega)]
        congr 1
        omega
      rw [this]
    · have e : Lib.decDigits u = Lib.decDigits (u / 10) ++ [UInt8.ofNat (48 + u % 10)] := by
        conv => lhs; rw [Lib.decDigits, dif_neg h]
      rw [e, valU_snoc, ih (u / 10) (by omega) (by omega)]
      simp only
      unfold stepU
      have e : (UInt8.ofNat (48 + u % 10)).toNat = 48 + u % 10 := by rw [UInt8.toNat_ofNat']; omega
      rw [e, if_pos (by omega)]
      congr 1
      omega
theorem num_dec (u : Nat) (hu : u ≤ 18446744073709551615) : numU (Lib.decDigits u) = some u := by
  unfold numU
  rw [if_neg, val_dec u hu]
  rintro (h | ⟨h1, h2⟩)
  · exact dec_ne u h
  · by_cases h : 10 ≤ u
    · exact dec_head u h h2
    · rw [Lib.decDigits_one (by omega)] at h1
      simp at h1
theorem dec_num {l : List UInt8} {n : Nat} (h : numU l = some n) : Lib.decDigits n = l ∧ n ≤ 18446744073709551615 := by
  rw [numU_eq_numR] at h
  unfold numR at h
  split at h
  · simp at h
  · split at h
    · rename_i m hm
      split at h
      · simp at h; subst h; exact ⟨by assumption, valU_le _ _ _ (by omega) hm⟩
      · simp at h
    · simp at h
end Go.Proofs.YtamgbfkpblpfiaaGreatDoor
