/-
  Checkers of proofs, plainly: the clauses by which one is false.
-/
import Derived.Test.YtknpfopepedmmaaRuP
namespace Go.Proofs.Ytknpfopepedmmaa
set_option linter.unusedVariables false
set_option linter.unusedSimpArgs false
/-- One literal's clause is among some. -/
def CovL (S : RS) (seen : List Nat) (l : Int) : Prop := ∀ i, i < S.tr.length → ((S.tr.getD i (0, 0)).1 = l ∨ (S.tr.getD i (0, 0)).1 = -l) → (S.tr.getD i (0, 0)).2 = -1 ∨ ∃ k ∈ seen, (S.tr.getD i (0, 0)).2 = ((k : Nat) : Int)
theorem CovL.mono {S : RS} {a b : List Nat} {l : Int} (h : CovL S a l) (hs : ∀ k ∈ a, k ∈ b) : CovL S b l := fun i hi hv => by
  rcases h i hi hv with e | ⟨k, hk, e⟩
  · exact .inl e
  · exact .inr ⟨k, hs k hk, e⟩
/-- What has been seen, and what of it is left. -/
structure ReS (S : RS) (id : Nat) (seen left : List Nat) : Prop where
  nd : seen.Nodup
  idm : id ∈ seen
  lf : ∀ j ∈ left, j ∈ seen
  ok : ∀ j ∈ seen, j < S.cl.length ∧ S.onA j = true ∧ AllIn S j
  done : ∀ j ∈ seen, j ∉ left → ∀ l ∈ S.c j, CovL S seen l
  ll : left.length ≤ seen.length
/-- The same amid a clause. -/
structure ReK (S : RS) (id : Nat) (seen left : List Nat) (j k : Nat) : Prop where
  nd : seen.Nodup
  idm : id ∈ seen
  jm : j ∈ seen
  lf : ∀ x ∈ left, x ∈ seen
  ok : ∀ x ∈ seen, x < S.cl.length ∧ S.onA x = true ∧ AllIn S x
  done : ∀ x ∈ seen, x ∉ left → x ≠ j → ∀ l ∈ S.c x, CovL S seen l
  part : ∀ l ∈ (S.c j).take k, CovL S seen l
  ll : left.length ≤ seen.length
theorem ReS.start {S : RS} {id : Nat} (h1 : id < S.cl.length) (h2 : S.onA id = true) (h3 : AllIn S id) : ReS S id [id] [id] :=
  ⟨by simp, by simp, fun j hj => hj, fun j hj => by rw [List.mem_singleton.1 hj]; exact ⟨h1, h2, h3⟩, fun j hj hn => absurd hj hn, Nat.le_refl _⟩
theorem ReS.pop {S : RS} {id : Nat} {seen left : List Nat} {j : Nat} (h : ReS S id seen (left ++ [j])) : ReK S id seen left j 0 :=
  ⟨h.nd, h.idm, h.lf j (by simp), fun x hx => h.lf x (by simp [hx]), h.ok, fun x hx hn hne => h.done x hx (by simp [hn, hne]), fun l hl => by simp at hl, by have := h.ll; rw [List.length_append, List.length_singleton] at this; omega⟩
theorem ReK.back {S : RS} {id : Nat} {seen left : List Nat} {j k : Nat} (h : ReK S id seen left j k) (hk : (S.c j).length ≤ k) : ReS S id seen left :=
  ⟨h.nd, h.idm, h.lf, h.ok, fun x hx hn l hl => by
    by_cases e : x = j
    · subst e
      exact h.part l (by rw [List.take_of_length_le hk]; exact hl)
    · exact h.done x hx hn e l hl, h.ll⟩
theorem ReK.same {S : RS} {id : Nat} {seen left : List Nat} {j k : Nat} (h : ReK S id seen left j k) {hk : k < (S.c j).length} (hc : CovL S seen ((S.c j).getD k 0)) : ReK S id seen left j (k + 1) :=
  ⟨h.nd, h.idm, h.jm, h.lf, h.ok, h.done, fun l hl => by
    rw [List.take_succ_eq_append_getElem hk] at hl
    rcases List.mem_append.1 hl with hl | hl
    · exact h.part l hl
    · have e : l = (S.c j).getD k 0 := by rw [List.mem_singleton.1 hl, List.getD_eq_getElem?_getD, List.getElem?_eq_getElem hk]; rfl
      rw [e]; exact hc, h.ll⟩
theorem ReK.more {S : RS} {id : Nat} {seen left : List Nat} {j k : Nat} (h : ReK S id seen left j k) (hk : k < (S.c j).length) {b : Nat} (hb : b ∉ seen) (h1 : b < S.cl.length ∧ S.onA b = true ∧ AllIn S b) (hc : CovL S (seen ++ [b]) ((S.c j).getD k 0)) : ReK S id (seen ++ [b]) (left ++ [b]) j (k + 1) :=
  ⟨by rw [List.nodup_append]; exact ⟨h.nd, by simp, fun a ha c hc e => by rw [List.mem_singleton.1 hc] at e; rw [e] at ha; exact hb ha⟩,
   by simp [h.idm], by simp [h.jm], fun x hx => by
    rcases List.mem_append.1 hx with hx | hx
    · exact List.mem_append.2 (.inl (h.lf x hx))
    · exact List.mem_append.2 (.inr hx),
   fun x hx => by
    rcases List.mem_append.1 hx with hx | hx
    · exact h.ok x hx
    · rw [List.mem_singleton.1 hx]; exact h1,
   fun x hx hn hne l hl => by
    rcases List.mem_append.1 hx with hx | hx
    · exact (h.done x hx (fun e => hn (List.mem_append.2 (.inl e))) hne l hl).mono (fun y hy => List.mem_append.2 (.inl hy))
    · exact absurd (List.mem_append.2 (.inr hx)) hn,
   fun l hl => by
    rw [List.take_succ_eq_append_getElem hk] at hl
    rcases List.mem_append.1 hl with hl | hl
    · exact (h.part l hl).mono (fun y hy => List.mem_append.2 (.inl hy))
    · have e : l = (S.c j).getD k 0 := by rw [List.mem_singleton.1 hl, List.getD_eq_getElem?_getD, List.getElem?_eq_getElem hk]; rfl
      rw [e]; exact hc, by simp only [List.length_append, List.length_singleton]; have := h.ll; omega⟩
theorem ReS.fin {S : RS} {id : Nat} {seen : List Nat} (h : ReS S id seen []) {R : List Nat} (hR : ∀ x, x ∈ R ↔ x ∈ seen) : RsP S id R :=
  ⟨(hR id).2 h.idm, fun j hj => by
    have hs := (hR j).1 hj
    obtain ⟨a, b, -⟩ := h.ok j hs
    refine ⟨a, b, fun l hl i hi hv => ?_⟩
    rcases h.done j hs (by simp) l hl i hi hv with e | ⟨k, hk, e⟩
    · exact .inl e
    · exact .inr ⟨k, (hR k).2 hk, e⟩⟩
/-- By which clause a literal that is assigned came. -/
theorem mark_by {S : RS} {A : List Int} (h : RInv S A) {l : Int} (hl : lit30 l) (hin : l ∈ S.T ∨ -l ∈ S.T) :
    ∃ p : Bool × Int, markF S (vr l) = some p ∧ (p.2 = -1 ∧ (∀ seen, CovL S seen l) ∨ ∃ b : Nat, p.2 = (b : Int) ∧ b < S.cl.length ∧ S.onA b = true ∧ AllIn S b ∧ ∀ seen, b ∈ seen → CovL S seen l) := by
  obtain ⟨i, hi, hv⟩ : ∃ i, i < S.tr.length ∧ ((S.tr.getD i (0, 0)).1 = l ∨ (S.tr.getD i (0, 0)).1 = -l) := by
    rcases hin with hin | hin
    · obtain ⟨i, hi, e⟩ := mem_T hin
      exact ⟨i, hi, .inl e⟩
    · obtain ⟨i, hi, e⟩ := mem_T hin
      exact ⟨i, hi, .inr e⟩
  have hp := vr_pos hl.1
  have vrs : ∀ x : Int, (x = l ∨ x = -l) → (x = vr l ∨ x = -vr l) := fun x hx => by unfold vr; omega
  have hf := find_T h.con hi (v := vr l) (vrs _ hv)
  have uniq : ∀ q, q < S.tr.length → ((S.tr.getD q (0, 0)).1 = l ∨ (S.tr.getD q (0, 0)).1 = -l) → S.tr.getD q (0, 0) = S.tr.getD i (0, 0) := fun q hq hqv => by
    have := find_T h.con hq (v := vr l) (vrs _ hqv)
    rw [hf] at this
    injection this with this
    exact this.symm
  refine ⟨(decide (0 < (S.tr.getD i (0, 0)).1), (S.tr.getD i (0, 0)).2), ?_, ?_⟩
  · unfold markF
    rw [if_neg (by omega), hf]; rfl
  · rcases h.just i hi with ⟨e, -, -⟩ | ⟨k, k1, k2, k3, -, -⟩
    · exact .inl ⟨e, fun seen q hq hqv => .inl (by rw [uniq q hq hqv]; exact e)⟩
    · refine .inr ⟨k, k1, k2, k3, (just_allIn h hi k1).1, fun seen hs q hq hqv => .inr ⟨k, hs, by rw [uniq q hq hqv]; exact k1⟩⟩
theorem seen_len {S : RS} {seen : List Nat} (nd : seen.Nodup) (ok : ∀ j ∈ seen, j < S.cl.length ∧ S.onA j = true ∧ AllIn S j) : seen.length ≤ S.cl.length := by
  have := nd.length_le_of_subset (l₂ := List.range S.cl.length) (fun j hj => List.mem_range.2 (ok j hj).1)
  simpa using this
def setF (seen : List Nat) (x : Int) : Option Bool := if 0 ≤ x ∧ x.toNat ∈ seen then some true else none
theorem setF_more (seen : List Nat) (b : Nat) : setF (seen ++ [b]) = upd (setF seen) (b : Int) (some true) := by
  funext x
  show (if 0 ≤ x ∧ x.toNat ∈ seen ++ [b] then some true else none) = if x = (b : Int) then some true else (if 0 ≤ x ∧ x.toNat ∈ seen then some true else none)
  by_cases e : x = (b : Int)
  · rw [if_pos e, if_pos ⟨by omega, by rw [e]; simp⟩]
  · rw [if_neg e]
    by_cases h0 : 0 ≤ x
    · have : x.toNat ∈ seen ++ [b] ↔ x.toNat ∈ seen := by
        rw [List.mem_append, List.mem_singleton]
        exact ⟨fun h => h.resolve_right (by omega), .inl⟩
      by_cases h1 : x.toNat ∈ seen
      · rw [if_pos ⟨h0, this.2 h1⟩, if_pos ⟨h0, h1⟩]
      · rw [if_neg (fun h => h1 (this.1 h.2)), if_neg (fun h => h1 h.2)]
    · rw [if_neg (fun h => h0 h.1), if_neg (fun h => h0 h.1)]
end Go.Proofs.Ytknpfopepedmmaa
