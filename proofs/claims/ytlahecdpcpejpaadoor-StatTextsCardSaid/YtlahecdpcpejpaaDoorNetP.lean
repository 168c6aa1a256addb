/-
  PLAIN: what is wrong with definitions; when all are there.
-/
import Derived.Test.YtlahecdpcpejpaaDoorNetD
namespace Go.Proofs.YtlahecdpcpejpaaDoor
set_option linter.unusedVariables false
theorem nodup_le {α : Type} [DecidableEq α] : ∀ {a b : List α}, a.Nodup → (∀ x ∈ a, x ∈ b) → a.length ≤ b.length
  | [], _, _, _ => Nat.zero_le _
  | x :: a, b, hn, hs => by
    have hx : x ∈ b := hs x (List.mem_cons_self ..)
    have h1 := nodup_le (a := a) (b := b.erase x) (List.nodup_cons.1 hn).2 (fun y hy => by
      have hne : y ≠ x := fun e => (List.nodup_cons.1 hn).1 (e ▸ hy)
      exact (List.mem_erase_of_ne hne).2 (hs y (List.mem_cons_of_mem _ hy)))
    have h2 := List.length_erase_of_mem hx
    have h3 : 0 < b.length := List.length_pos_of_mem hx
    rw [List.length_cons]
    omega
def seqI (n : Nat) : List Int := (List.range n).map fun (i : Nat) => (i : Int) + 1
theorem seqI_len (n : Nat) : (seqI n).length = n := by simp [seqI]
theorem mem_seqI {n : Nat} {x : Int} : x ∈ seqI n ↔ 1 ≤ x ∧ x ≤ n := by
  unfold seqI
  simp only [List.mem_map, List.mem_range]
  constructor
  · rintro ⟨i, hi, rfl⟩; omega
  · rintro ⟨h1, h2⟩; exact ⟨(x - 1).toNat, by omega, by omega⟩
theorem seqI_nodup (n : Nat) : (seqI n).Nodup := by
  unfold seqI
  rw [List.Nodup, List.pairwise_map]
  exact List.Pairwise.imp (fun h e => h (by omega)) List.nodup_range
structure Defs (vars : Int) (sn : List Int) : Prop where
  nd : sn.Nodup
  rng : ∀ x ∈ sn, 1 ≤ x ∧ x ≤ vars
theorem Defs.nil (vars : Int) : Defs vars [] := ⟨List.nodup_nil, fun _ h => by cases h⟩
theorem Defs.cons {vars x : Int} {sn : List Int} (h : Defs vars sn) (h1 : 1 ≤ x) (h2 : x ≤ vars) (hx : x ∉ sn) : Defs vars (x :: sn) :=
  ⟨List.nodup_cons.2 ⟨hx, h.nd⟩, fun y hy => by rcases List.mem_cons.1 hy with rfl | hy; exact ⟨h1, h2⟩; exact h.rng y hy⟩
theorem Defs.len {vars : Int} {sn : List Int} (h : Defs vars sn) : sn.length ≤ vars.toNat := by
  have := nodup_le (b := seqI vars.toNat) h.nd (fun x hx => mem_seqI.2 (by have := h.rng x hx; omega))
  rwa [seqI_len] at this
theorem Defs.all {vars : Int} {sn : List Int} (h : Defs vars sn) : vars.toNat ≤ sn.length ↔ ∀ v : Int, 1 ≤ v → v ≤ vars → v ∈ sn := by
  constructor
  · intro hl v h1 h2
    by_cases hv : v ∈ sn
    · exact hv
    · have := (h.cons h1 h2 hv).len
      rw [List.length_cons] at this
      omega
  · intro ha
    have := nodup_le (a := seqI vars.toNat) (b := sn) (seqI_nodup _) (fun x hx => by have := mem_seqI.1 hx; exact ha x (by omega) (by omega))
    rwa [seqI_len] at this
theorem definesN_nil {vars : Int} {sn : List Int} (h : Defs vars sn) : definesN vars [] sn = if vars.toNat ≤ sn.length then 0 else 7 := rfl
theorem definesN_bad {vars x : Int} {l sn : List Int} (h : x < 1 ∨ vars < x) : definesN vars (x :: l) sn = 5 := by unfold definesN; rw [if_pos h]
theorem definesN_twice {vars x : Int} {l sn : List Int} (h : ¬ (x < 1 ∨ vars < x)) (hx : x ∈ sn) : definesN vars (x :: l) sn = 6 := by unfold definesN; rw [if_neg h, if_pos hx]
theorem definesN_step {vars x : Int} {l sn : List Int} (h : ¬ (x < 1 ∨ vars < x)) (hx : x ∉ sn) : definesN vars (x :: l) sn = definesN vars l (x :: sn) := by
  rw [definesN, if_neg h, if_neg hx]
theorem definesN_ok {vars : Int} : ∀ {l sn : List Int}, Defs vars sn → definesN vars l sn = 0 → Defs vars (l ++ sn) ∧ ∀ v : Int, 1 ≤ v → v ≤ vars → v ∈ l ∨ v ∈ sn
  | [], sn, h, h0 => by
    rw [definesN_nil h] at h0
    refine ⟨h, fun v h1 h2 => .inr (h.all.1 ?_ v h1 h2)⟩
    by_cases hl : vars.toNat ≤ sn.length
    · exact hl
    · rw [if_neg hl] at h0; cases h0
  | x :: l, sn, h, h0 => by
    by_cases hb : x < 1 ∨ vars < x
    · rw [definesN_bad hb] at h0; cases h0
    · by_cases hx : x ∈ sn
      · rw [definesN_twice hb hx] at h0; cases h0
      · rw [definesN_step hb hx] at h0
        obtain ⟨h1, h2⟩ := definesN_ok (h.cons (by omega) (by omega) hx) h0
        have hp : (l ++ x :: sn).Perm (x :: l ++ sn) := List.perm_middle
        refine ⟨⟨hp.nodup_iff.1 h1.nd, fun y hy => h1.rng y (hp.mem_iff.2 hy)⟩, fun v hv1 hv2 => ?_⟩
        rcases h2 v hv1 hv2 with h3 | h3
        · exact .inl (List.mem_cons_of_mem _ h3)
        · rcases List.mem_cons.1 h3 with rfl | h3
          · exact .inl (List.mem_cons_self ..)
          · exact .inr h3
end Go.Proofs.YtlahecdpcpejpaaDoor
