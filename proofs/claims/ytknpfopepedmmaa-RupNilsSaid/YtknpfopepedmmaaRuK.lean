/-
  Package rup: a checker in memory.
-/
import Derived.Test.YtknpfopepedmmaaRuN
import Derived.Test.YtknpfopepedmmaaMapI
import Derived.Test.YtknpfopepedmmaaIntsS
namespace Go.Proofs.Ytknpfopepedmmaa
open Go Go.ChangeShapes Go.WideShapes Go.ChangeAt Go.RowKit Go.Maps
set_option linter.unusedVariables false
set_option linter.unusedSimpArgs false
/-! ### how elements read -/
def rdMark (v : Value) : Option (DataW Unit × List MemPlace) := match v with
  | .agg ⟨[.bool h, .int .i64 n]⟩ => some (.agg [.lit (.bool h), .lit (.int .i64 n)], [])
  | _ => none
def rdSl (v : Value) : Option (DataW Unit × List MemPlace) := match v with
  | .slice none 0 0 => some (.nil, [])
  | .slice (some ⟨g, 0, none⟩) n c => some (.agg [.lit (.int .i64 (g : Int)), .lit (.int .i64 (n : Int)), .lit (.int .i64 (c : Int))], [])
  | _ => none
def evSl : Option (Nat × Nat × Nat) → Value
  | none => .slice none 0 0
  | some (g, n, c) => .slice (some ⟨g, 0, none⟩) n c
theorem rdMark_inv {v : Value} {p : Bool × Int} {ps : List MemPlace} (h : rdMark v = some (.agg [.lit (.bool p.1), .lit (.int .i64 p.2)], ps)) : v = .agg #[.bool p.1, .int .i64 p.2] := by
  unfold rdMark at h
  split at h
  · injection h with h
    injection h with h1 h2
    injection h1 with h1
    injection h1 with a b
    injection b with b c
    injection a with a
    injection a with a
    injection b with b
    injection b with b1 b2
    subst a b2
    rfl
  · cases h
def dvSl : Option (Nat × Nat × Nat) → DataW Unit
  | none => .nil
  | some (g, n, c) => .agg [.lit (.int .i64 (g : Int)), .lit (.int .i64 (n : Int)), .lit (.int .i64 (c : Int))]
theorem rdSl_ev (a : Option (Nat × Nat × Nat)) : rdSl (evSl a) = some (dvSl a, []) := by
  match a with
  | none => rfl
  | some (g, n, c) => rfl
theorem rdSl_inv {v : Value} {a : Option (Nat × Nat × Nat)} {ps : List MemPlace} (h : rdSl v = some (dvSl a, ps)) : v = evSl a := by
  unfold rdSl at h
  split at h
  · match a with
    | none => rfl
    | some (g, n, c) => simp [dvSl] at h
  · rename_i g' n' c'
    match a with
    | none => simp [dvSl] at h
    | some (g, n, c) =>
      simp [dvSl] at h
      obtain ⟨⟨h1, h2, h3⟩, -⟩ := h
      obtain rfl : g' = g := by omega
      obtain rfl : n' = n := by omega
      obtain rfl : c' = c := by omega
      rfl
  · cases h
set_option maxRecDepth 100000 in
theorem boolE_inv {v : Value} {a : Bool} {ps : List MemPlace} (h : plainElem (H := Unit) Try.prog 4 v = some (.lit (.bool a), ps)) : v = .bool a := by
  unfold plainElem at h
  rw [Try.underlying4] at h
  cases v <;> simp at h
  rw [h.1]
noncomputable def eBool : EKnd Bool := ⟨4, plainElem Try.prog 4, .bool, fun x => .lit (.bool x), false, fun a => plainElem_bool Try.underlying4 a, boolE_inv, fun w => by kernel_rfl⟩
noncomputable def eMark : EKnd (Bool × Int) := ⟨77, rdMark, fun p => .agg #[.bool p.1, .int .i64 p.2], fun p => .agg [.lit (.bool p.1), .lit (.int .i64 p.2)], (false, 0), fun a => rfl, rdMark_inv, fun w => by kernel_rfl⟩
noncomputable def eSl : EKnd (Option (Nat × Nat × Nat)) := ⟨28, rdSl, evSl, dvSl, none, rdSl_ev, rdSl_inv, fun w => by kernel_rfl⟩
/-! ### what the maps hold -/
def onF (S : RS) (x : Int) : Option Bool := if 0 ≤ x ∧ S.onA x.toNat = true then some true else none
def markF (S : RS) (v : Int) : Option (Bool × Int) := if v ≤ 0 then none else (S.tr.find? fun e => decide (e.1 = v ∨ e.1 = -v)).map fun e => (decide (0 < e.1), e.2)
def hv (ho : Int → Option (Option (Nat × Nat × Nat))) (x : Int) : Value := evSl ((ho x).getD none)
def HB (ho : Int → Option (Option (Nat × Nat × Nat))) (g : Nat) : Prop := ∃ x, (hv ho x).ownBlock = some g
/-- The checker's own blocks. -/
def KS (r bt bo bm : Nat) (vl vt : Value) (ho : Int → Option (Option (Nat × Nat × Nat))) (g : Nat) : Prop := g = r ∨ g = bt ∨ g = bo ∨ g = bm ∨ vl.ownBlock = some g ∨ vt.ownBlock = some g ∨ HB ho g
structure KP (w : World) (r : Nat) (S : RS) (vl vt : Value) (bt bo bm nt no nm : Nat) (us : List Value) (ho : Int → Option (Option (Nat × Nat × Nat))) : Prop where
  b : Blk w r 72 #[vl, .map (some bt), .map (some bo), .map (some bm), vt, .int .i64 (S.base : Nat), .int .i64 S.bk]
  l : Row w 28 1 vl S.cl.length us
  c : Cls w (KS r bt bo bm vl vt ho) us S.cl
  t : MapF eBool w bt nt (onF S)
  o : MapF eSl w bo no ho
  of : ∀ x, Row w 3 1 (hv ho x) (S.ofL x).length ((S.ofL x).map fun i => iv (i : Nat))
  m : MapF eMark w bm nm (markF S)
  tr : Row w 3 1 vt S.tr.length (S.T.map iv)
  d : r ≠ bt ∧ r ≠ bo ∧ r ≠ bm ∧ bt ≠ bo ∧ bt ≠ bm ∧ bo ≠ bm
  sl : ∀ g, vl.ownBlock = some g → g ≠ r ∧ g ≠ bt ∧ g ≠ bo ∧ g ≠ bm ∧ vt.ownBlock ≠ some g
  st : ∀ g, vt.ownBlock = some g → g ≠ r ∧ g ≠ bt ∧ g ≠ bo ∧ g ≠ bm
  sh : ∀ g, HB ho g → g ≠ r ∧ g ≠ bt ∧ g ≠ bo ∧ g ≠ bm ∧ vl.ownBlock ≠ some g ∧ vt.ownBlock ≠ some g
  sx : ∀ x y g, x ≠ y → (hv ho x).ownBlock = some g → (hv ho y).ownBlock ≠ some g
theorem MapF.tight {α : Type} {E : EKnd α} {w : World} {b n : Nat} {f : Int → Option α} (h : MapF E w b n f) {m : Nat} (hm : ∀ ks : List Int, ks.Nodup → (∀ x ∈ ks, (f x).isSome = true) → ks.length ≤ m) : MapF E w b m f := by
  obtain ⟨cs, ⟨es, clock, hb, F, hs, hD⟩, h2, rfl⟩ := h
  refine ⟨cs, ⟨es, clock, hb, F, ?_, hD⟩, h2, rfl⟩
  have h1 := hm (cs.map (·.1)) h2 (fun x hx => mem_keys.1 hx)
  rw [List.length_map] at h1
  have e : cs.length = es.size := by
    have := congrArg Maps.size hD
    rw [size_datF] at this
    rw [this]
    simp [Maps.size, length_sorted]
  omega
/-- What a literal's variable is called. -/
def vr (l : Int) : Int := max l (-l)
theorem vr_pos {l : Int} (h : l ≠ 0) : 0 < vr l := by unfold vr; omega
theorem find_T {S : RS} (hc : Con S.T) {i : Nat} (hi : i < S.tr.length) {v : Int} (hv : (S.tr.getD i (0, 0)).1 = v ∨ (S.tr.getD i (0, 0)).1 = -v) : (S.tr.find? fun e => decide (e.1 = v ∨ e.1 = -v)) = some (S.tr.getD i (0, 0)) := by
  have hm : S.tr.getD i (0, 0) ∈ S.tr := by rw [List.getD_eq_getElem?_getD, List.getElem?_eq_getElem hi]; exact List.getElem_mem hi
  cases hf : S.tr.find? fun e => decide (e.1 = v ∨ e.1 = -v) with
  | none =>
    rw [List.find?_eq_none] at hf
    exact absurd hv (by simpa using hf _ hm)
  | some e =>
    have h1 := List.find?_some hf
    have h2 := List.mem_of_find?_eq_some hf
    obtain ⟨j, hj, ej⟩ := List.getElem_of_mem h2
    have h1 : e.1 = v ∨ e.1 = -v := by simpa using h1
    have eT : ∀ k (hk : k < S.tr.length), S.T[k]'(by rw [S.T_len]; exact hk) = (S.tr[k]).1 := fun k hk => by simp [RS.T]
    have ei : S.tr.getD i (0, 0) = S.tr[i] := by rw [List.getD_eq_getElem?_getD, List.getElem?_eq_getElem hi]; rfl
    rw [ei] at hv ⊢
    have same : S.T[j]'(by rw [S.T_len]; exact hj) = S.T[i]'(by rw [S.T_len]; exact hi) := by
      have hjT : S.T[j]'(by rw [S.T_len]; exact hj) ∈ S.T := List.getElem_mem _
      have hiT : S.T[i]'(by rw [S.T_len]; exact hi) ∈ S.T := List.getElem_mem _
      have a1 := hc.co _ hjT
      have a2 := hc.co _ hiT
      rw [eT j hj] at hjT a1 ⊢
      rw [eT i hi] at hiT a2 ⊢
      rw [ej] at hjT a1 ⊢
      rcases h1 with h1 | h1 <;> rcases hv with h3 | h3
      · omega
      · exact absurd hiT (by rw [h3, ← h1]; exact a1)
      · exact absurd hjT (by rw [h1, ← h3]; exact a2)
      · omega
    have hij : j = i := by
      have hp := List.pairwise_iff_getElem.1 hc.nd
      rcases Nat.lt_trichotomy j i with h | h | h
      · exact absurd same (hp j i _ _ h)
      · exact h
      · exact absurd same.symm (hp i j _ _ h)
    subst hij
    rw [ej]
theorem find_none {S : RS} {v : Int} (h1 : v ∉ S.T) (h2 : -v ∉ S.T) : (S.tr.find? fun e => decide (e.1 = v ∨ e.1 = -v)) = none := by
  rw [List.find?_eq_none]
  intro e he
  have hm : e.1 ∈ S.T := List.mem_map.2 ⟨e, he, rfl⟩
  simp only [decide_eq_true_eq]
  rintro (h | h)
  · exact h1 (h ▸ hm)
  · exact h2 (h ▸ hm)
/-- What the marks tell of a literal. -/
theorem markF_val {S : RS} (hc : Con S.T) {l : Int} (hl : l ≠ 0) : valR l S.T = match markF S (vr l) with
    | none => 0
    | some p => if p.1 = decide (0 < l) then 1 else -1 := by
  have hp := vr_pos hl
  unfold markF
  rw [if_neg (by omega)]
  by_cases h1 : l ∈ S.T
  · obtain ⟨i, hi, e⟩ := mem_T h1
    rw [find_T hc hi (v := vr l) (by rw [e]; unfold vr; omega), val_pos h1]
    simp only [Option.map_some, e]
    rw [if_pos trivial]
  · by_cases h2 : -l ∈ S.T
    · obtain ⟨i, hi, e⟩ := mem_T h2
      rw [find_T hc hi (v := vr l) (by rw [e]; unfold vr; omega), val_neg h1 h2]
      simp only [Option.map_some, e]
      rw [if_neg]
      intro hh
      rw [decide_eq_decide] at hh
      omega
    · rw [find_none (v := vr l) (by unfold vr; rcases Int.le_total 0 l with h | h <;> (first | (rw [show max l (-l) = l by omega]; exact h1) | (rw [show max l (-l) = -l by omega]; exact h2))) (by unfold vr; rcases Int.le_total 0 l with h | h <;> (first | (rw [show -(max l (-l)) = -l by omega]; exact h2) | (rw [show -(max l (-l)) = l by omega]; exact h1))), val_zero h1 h2]
      rfl
/-- The marks of a trail that has grown. -/
theorem markF_asg {S : RS} {l b : Int} (hl : l ≠ 0) (hv : valR l S.T = 0) : markF (S.asg l b) = upd (markF S) (vr l) (some (decide (0 < l), b)) := by
  obtain ⟨h1, h2⟩ := val_0 hv
  funext y
  unfold upd
  by_cases hy : y = vr l
  · rw [if_pos hy, hy]
    have hp := vr_pos hl
    unfold markF
    rw [if_neg (by omega)]
    show ((S.tr ++ [(l, b)]).find? _).map _ = _
    have hf := find_none (S := S) (v := vr l) (by unfold vr; rcases Int.le_total 0 l with h | h <;> (first | (rw [show max l (-l) = l by omega]; exact h1) | (rw [show max l (-l) = -l by omega]; exact h2))) (by unfold vr; rcases Int.le_total 0 l with h | h <;> (first | (rw [show -(max l (-l)) = -l by omega]; exact h2) | (rw [show -(max l (-l)) = l by omega]; exact h1)))
    rw [List.find?_append, hf]
    have e : decide (l = vr l ∨ l = -vr l) = true := by rw [decide_eq_true_eq]; unfold vr; omega
    simp only [List.find?_cons, e]
    rfl
  · rw [if_neg hy]
    unfold markF
    by_cases h0 : y ≤ 0
    · rw [if_pos h0, if_pos h0]
    · rw [if_neg h0, if_neg h0]
      show ((S.tr ++ [(l, b)]).find? _).map _ = _
      rw [List.find?_append]
      have e : decide (l = y ∨ l = -y) = false := by rw [decide_eq_false_iff_not]; unfold vr at hy; omega
      cases S.tr.find? fun e => decide (e.1 = y ∨ e.1 = -y) with
      | some a => rfl
      | none => simp only [Option.none_or, List.find?_cons, e, List.find?_nil]
end Go.Proofs.Ytknpfopepedmmaa
