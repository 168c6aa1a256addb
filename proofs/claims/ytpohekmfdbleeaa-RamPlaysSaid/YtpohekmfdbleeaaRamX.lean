/-
  The laws of chapter 11: what writes come to.
-/
import Derived.Test.YtpohekmfdbleeaaRamW
import Derived.Test.YtpohekmfdbleeaaStructs3
namespace Go.Proofs.Ytpohekmfdbleeaa
open Go.ChangeShapes Go.WideShapes Go.ChangeAt Go.RowKit Go.Maps
set_option linter.unusedVariables false
abbrev AS := List (Int × Int × Int)
/-- The slice v reads as the acts l. -/
def Acts (w : World) (v : Value) (l : AS) : Prop :=
  ∃ a cap, v = .slice a l.length cap ∧ l.length ≤ cap ∧ cap ≤ maxLen ∧ (∀ p ∈ l, wf p.2.1 ∧ wf p.2.2) ∧ (l = [] ∨ ∃ b off, a = some ⟨b, off, none⟩ ∧ b < w.heap.size ∧
    ∀ j, j < l.length → w.cell? ⟨b, off + j * 3, none⟩ = some (.int .i64 (l.getD j (0, 0, 0)).1) ∧ w.cell? ⟨b, off + j * 3 + 1, none⟩ = some (.int .u64 (l.getD j (0, 0, 0)).2.1) ∧ w.cell? ⟨b, off + j * 3 + 2, none⟩ = some (.int .u64 (l.getD j (0, 0, 0)).2.2))
theorem acts_cells {w : World} {a : Option Addr} {l : AS} (hv : l = [] ∨ ∃ b off, a = some ⟨b, off, none⟩ ∧ b < w.heap.size ∧
    ∀ j, j < l.length → w.cell? ⟨b, off + j * 3, none⟩ = some (.int .i64 (l.getD j (0, 0, 0)).1) ∧ w.cell? ⟨b, off + j * 3 + 1, none⟩ = some (.int .u64 (l.getD j (0, 0, 0)).2.1) ∧ w.cell? ⟨b, off + j * 3 + 2, none⟩ = some (.int .u64 (l.getD j (0, 0, 0)).2.2)) {j : Nat} (hj : j < l.length) :
    ∃ b off, a = some ⟨b, off, none⟩ ∧ b < w.heap.size ∧ ∀ wr, Below w.heap.size w wr → wr.cell? ⟨b, off + j * 3, none⟩ = some (.int .i64 (l.getD j (0, 0, 0)).1) ∧ wr.cell? ⟨b, off + j * 3 + 1, none⟩ = some (.int .u64 (l.getD j (0, 0, 0)).2.1) ∧ wr.cell? ⟨b, off + j * 3 + 2, none⟩ = some (.int .u64 (l.getD j (0, 0, 0)).2.2) := by
  have hne : l ≠ [] := fun e => by rw [e] at hj; simp at hj
  obtain ⟨b, off, h1, h2, h3⟩ := hv.resolve_left hne
  refine ⟨b, off, h1, h2, fun wr hwr => ?_⟩
  have e := hwr.block b h2
  obtain ⟨q1, q2, q3⟩ := h3 j hj
  exact ⟨by rw [World.cell?_of_block (w := w) e]; exact q1, by rw [World.cell?_of_block (w := w) e]; exact q2, by rw [World.cell?_of_block (w := w) e]; exact q3⟩
theorem wf_acts {l : AS} (h : ∀ p ∈ l, wf p.2.1 ∧ wf p.2.2) (j : Nat) : wf (l.getD j (0, 0, 0)).2.1 ∧ wf (l.getD j (0, 0, 0)).2.2 := by
  by_cases hj : j < l.length
  · have := h (l[j]) (List.getElem_mem hj)
    simpa [List.getD, hj] using this
  · have e : l.getD j (0, 0, 0) = (0, 0, 0) := by simp [List.getD, hj]
    rw [e]; unfold wf; simp
/-- Cells such as a memory may have. -/
def okC (aw ww : Int) (p : Int × Int) : Prop := wf p.1 ∧ wf p.2 ∧ p.2 ≠ 0 ∧ fitsB p.1 aw = true ∧ fitsB p.2 ww = true
def Good (aw ww : Int) (cs : CS) : Prop := rising cs ∧ ∀ p ∈ cs, okC aw ww p
theorem Good.nil (aw ww : Int) : Good aw ww [] := ⟨List.Pairwise.nil, by simp⟩
theorem mem_ins {q p : Int × Int} : ∀ {l : CS}, p ∈ insC q l ↔ p = q ∨ p ∈ l
  | [] => by simp [insC]
  | y :: r => by
    unfold insC
    split
    · simp
    · simp only [List.mem_cons, mem_ins (l := r)]
      constructor
      · rintro (h | h | h)
        · exact .inr (.inl h)
        · exact .inl h
        · exact .inr (.inr h)
      · rintro (h | h | h)
        · exact .inr (.inl h)
        · exact .inl h
        · exact .inr (.inr h)
theorem len_ins (q : Int × Int) : ∀ l : CS, (insC q l).length = l.length + 1
  | [] => rfl
  | y :: r => by
    unfold insC
    split
    · simp
    · simp [len_ins q r]
theorem rising_ins {q : Int × Int} : ∀ {l : CS}, rising l → (∀ p ∈ l, p.1 ≠ q.1) → rising (insC q l)
  | [], _, _ => by simp [insC, rising]
  | y :: r, h, hn => by
    obtain ⟨h1, h2⟩ := List.pairwise_cons.1 h
    unfold insC
    split
    · rename_i hq
      refine List.pairwise_cons.2 ⟨fun p hp => ?_, h⟩
      rcases List.mem_cons.1 hp with e | hp
      · rw [e]; exact hq
      · have := h1 p hp; omega
    · rename_i hq
      refine List.pairwise_cons.2 ⟨fun p hp => ?_, rising_ins h2 (fun p hp => hn p (by simp [hp]))⟩
      rcases mem_ins.1 hp with e | hp
      · rw [e]; have := hn y (by simp); omega
      · exact h1 p hp
theorem rising_del {cs : CS} (h : rising cs) (x : Int) : rising (delC cs x) := List.Pairwise.filter _ h
theorem mem_del {cs : CS} {x : Int} {p : Int × Int} : p ∈ delC cs x ↔ p ∈ cs ∧ p.1 ≠ x := by unfold delC; simp
theorem len_del (cs : CS) (x : Int) : (delC cs x).length ≤ cs.length := List.length_filter_le _ _
theorem len_wr (cs : CS) (x v : Int) : (wrC cs x v).length ≤ cs.length + 1 := by
  unfold wrC putC
  have := len_del cs x
  split
  · omega
  · rw [len_ins]; omega
theorem Good.wr {aw ww : Int} {cs : CS} (h : Good aw ww cs) {x v : Int} (hx : wf x) (hv : wf v) (h1 : fitsB x aw = true) (h2 : fitsB v ww = true) : Good aw ww (wrC cs x v) := by
  unfold wrC putC
  split
  · exact ⟨rising_del h.1 x, fun p hp => h.2 p (mem_del.1 hp).1⟩
  · rename_i h0
    refine ⟨rising_ins (rising_del h.1 x) (fun p hp => (mem_del.1 hp).2), fun p hp => ?_⟩
    rcases mem_ins.1 hp with e | hp
    · rw [e]; exact ⟨hx, hv, h0, h1, h2⟩
    · exact h.2 p (mem_del.1 hp).1
theorem get_of_mem {cs : CS} (h : rising cs) {p : Int × Int} (hp : p ∈ cs) : getC cs p.1 = p.2 := by
  have hf : cs.find? (fun q => q.1 == p.1) = some p := by
    obtain ⟨q, hq⟩ : ∃ q, cs.find? (fun q => q.1 == p.1) = some q := by
      cases hc : cs.find? (fun q => q.1 == p.1) with
      | none => rw [List.find?_eq_none] at hc; exact absurd (hc p hp) (by simp)
      | some q => exact ⟨q, rfl⟩
    have h1 := List.mem_of_find?_eq_some hq
    have h2 : q.1 = p.1 := by have := List.find?_some hq; simpa using this
    rw [hq, rising_inj h h1 hp h2]
  unfold getC
  rw [hf]
theorem get_of_not {cs : CS} {x : Int} (h : ∀ p ∈ cs, p.1 ≠ x) : getC cs x = 0 := by
  have : cs.find? (fun q => q.1 == x) = none := by rw [List.find?_eq_none]; intro p hp; simpa using h p hp
  unfold getC
  rw [this]
theorem get_ext {cs ds : CS} (h : rising cs) (g : rising ds) {x : Int} (he : ∀ p : Int × Int, p.1 = x → (p ∈ cs ↔ p ∈ ds)) : getC cs x = getC ds x := by
  by_cases hc : ∃ p ∈ cs, p.1 = x
  · obtain ⟨p, hp, rfl⟩ := hc
    rw [get_of_mem h hp, get_of_mem g ((he p rfl).1 hp)]
  · have h1 : ∀ p ∈ cs, p.1 ≠ x := fun p hp e => hc ⟨p, hp, e⟩
    rw [get_of_not h1, get_of_not (fun p hp e => h1 p ((he p e).2 hp) e)]
/-- What was written is read; other words stay. -/
theorem get_wr_same {cs : CS} (h : rising cs) (x v : Int) : getC (wrC cs x v) x = v := by
  unfold wrC putC
  split
  · rename_i h0
    rw [get_of_not (fun p hp => (mem_del.1 hp).2), h0]
  · exact get_of_mem (rising_ins (rising_del h x) (fun p hp => (mem_del.1 hp).2)) (p := (x, v)) (mem_ins.2 (.inl rfl))
theorem get_wr_other {cs : CS} (h : rising cs) (x v y : Int) (hy : y ≠ x) : getC (wrC cs x v) y = getC cs y := by
  unfold wrC putC
  split
  · exact get_ext (rising_del h x) h (fun p hp => by rw [mem_del]; exact ⟨fun h => h.1, fun h => ⟨h, by rw [hp]; exact hy⟩⟩)
  · refine get_ext (rising_ins (rising_del h x) (fun p hp => (mem_del.1 hp).2)) h (fun p hp => ?_)
    rw [mem_ins, mem_del]
    constructor
    · rintro (e | h)
      · rw [e] at hp; exact absurd hp.symm hy
      · exact h.1
    · exact fun h => .inr ⟨h, by rw [hp]; exact hy⟩
theorem Pairs.wrote {w w' : World} {v : Value} {cs l : CS} {bm : Nat} (h : Pairs w v cs) (hm : MapAt w bm l) (hc : Chg (fun k => k = bm) w w') : Pairs w' v cs := by
  by_cases hne : cs = []
  · obtain ⟨a, cap, rfl, h1, h2, h3, h4⟩ := h
    exact ⟨a, cap, rfl, h1, h2, h3, .inl hne⟩
  · refine h.chg hc ?_
    obtain ⟨a, cap, rfl, h1, h2, h3, h4⟩ := h
    obtain ⟨b, off, rfl, hb, hcell⟩ := h4.resolve_left hne
    intro g hg e
    have : b = g := by simpa [Value.ownBlock] using hg
    subst this e
    obtain ⟨es, clock, hb', _⟩ := hm
    have h0 := (hcell 0 (List.length_pos_iff.2 hne)).1
    unfold World.cell? at h0
    simp [hb'] at h0
end Go.Proofs.Ytpohekmfdbleeaa
