/-
  Package rup: a checker in memory.
-/
import Derived.Test.YtknpfopepedmmaaRuN
import Derived.Test.YtknpfopepedmmaaMapI
import Derived.Test.YtknpfopepedmmaaIntsS
import Derived.WalkSpells
import Derived.WalkLawsBesides
namespace Go.Proofs.Ytknpfopepedmmaa
open Go Go.ChangeShapes Go.WideShapes Go.ChangeAt Go.RowKit Go.Maps
set_option linter.unusedVariables false
set_option linter.unusedSimpArgs false
/-! ### how elements read -/
def rdMark (v : Value) : Option (DataW Unit × List MemPlace) := match v with
  | .agg ⟨[.bool h, .int .i64 n]⟩ => some (.agg [.lit (.bool h), .lit (.int .i64 n)], [])
  | _ => none
def rdSl (v : Value) : Option (DataW Unit × List MemPlace) := match v with
  | .slice none 0 0 => some (.nil, [])
  | .slice (some ⟨g, 0, none⟩) n c => some (.agg [.lit (.int .i64 (g : Int)), .lit (.int .i64 (n : Int)), .lit (.int .i64 (c : Int))], [])
  | _ => none
def evSl : Option (Nat × Nat × Nat) → Value
  | none => .slice none 0 0
  | some (g, n, c) => .slice (some ⟨g, 0, none⟩) n c
theorem rdMark_inv {v : Value} {p : Bool × Int} {ps : List MemPlace} (h : rdMark v = some (.agg [.lit (.bool p.1), .lit (.int .i64 p.2)], ps)) : v = .agg #[.bool p.1, .int .i64 p.2] := by
  unfold rdMark at h
  split at h
  · injection h with h
    injection h with h1 h2
    injection h1 with h1
    injection h1 with a b
    injection b with b c
    injection a with a
    injection a with a
    injection b with b
    injection b with b1 b2
    subst a b2
    rfl
  · cases h
def dvSl : Option (Nat × Nat × Nat) → DataW Unit
  | none => .nil
  | some (g, n, c) => .agg [.lit (.int .i64 (g : Int)), .lit (.int .i64 (n : Int)), .lit (.int .i64 (c : Int))]
theorem rdSl_ev (a : Option (Nat × Nat × Nat)) : rdSl (evSl a) = some (dvSl a, []) := by
  match a with
  | none => rfl
  | some (g, n, c) => rfl
theorem rdSl_inv {v : Value} {a : Option (Nat × Nat × Nat)} {ps : List MemPlace} (h : rdSl v = some (dvSl a, ps)) : v = evSl a := by
  unfold rdSl at h
  split at h
  · match a with
    | none => rfl
    | some (g, n, c) => simp [dvSl] at h
  · rename_i g' n' c'
    match a with
    | none => simp [dvSl] at h
    | some (g, n, c) =>
      simp [dvSl] at h
      obtain ⟨⟨h1, h2, h3⟩, -⟩ := h
      obtain rfl : g' = g := by omega
      obtain rfl : n' = n := by omega
      obtain rfl : c' = c := by omega
      rfl
  · cases h
set_option maxRecDepth 100000 in
theorem boolE_inv {v : Value} {a : Bool} {ps : List MemPlace} (h : plainElem (H := Unit) Try.prog 4 v = some (.lit (.bool a), ps)) : v = .bool a := by
  unfold plainElem at h
  rw [Try.underlying4] at h
  cases v <;> simp at h
  rw [h.1]
noncomputable def eBool : EKnd Bool := ⟨4, plainElem Try.prog 4, .bool, fun x => .lit (.bool x), false, fun a => plainElem_bool Try.underlying4 a, boolE_inv, fun w => by kernel_rfl⟩
noncomputable def eMark : EKnd (Bool × Int) := ⟨77, rdMark, fun p => .agg #[.bool p.1, .int .i64 p.2], fun p => .agg [.lit (.bool p.1), .lit (.int .i64 p.2)], (false, 0), fun a => rfl, rdMark_inv, fun w => by kernel_rfl⟩
noncomputable def eSl : EKnd (Option (Nat × Nat × Nat)) := ⟨28, rdSl, evSl, dvSl, none, rdSl_ev, rdSl_inv, fun w => by kernel_rfl⟩
/-! ### what the maps hold -/
def onF (S : RS) (x : Int) : Option Bool := if 0 ≤ x ∧ S.onA x.toNat = true then some true else none
def markF (S : RS) (v : Int) : Option (Bool × Int) := if v ≤ 0 then none else (S.tr.find? fun e => decide (e.1 = v ∨ e.1 = -v)).map fun e => (decide (0 < e.1), e.2)
def hv (ho : Int → Option (Option (Nat × Nat × Nat))) (x : Int) : Value := evSl ((ho x).getD none)
def HB (ho : Int → Option (Option (Nat × Nat × Nat))) (g : Nat) : Prop := ∃ x, (hv ho x).ownBlock = some g
/-- The checker's own blocks. -/
def KS (r bt bo bm : Nat) (vl vt : Value) (ho : Int → Option (Option (Nat × Nat × Nat))) (g : Nat) : Prop := g = r ∨ g = bt ∨ g = bo ∨ g = bm ∨ vl.ownBlock = some g ∨ vt.ownBlock = some g ∨ HB ho g
structure KP (w : World) (r : Nat) (S : RS) (vl vt : Value) (bt bo bm nt no nm : Nat) (us : List Value) (ho : Int → Option (Option (Nat × Nat × Nat))) : Prop where
  b : Blk w r 72 #[vl, .map (some bt), .map (some bo), .map (some bm), vt, .int .i64 (S.base : Nat), .int .i64 S.bk]
  l : Row w 28 1 vl S.cl.length us
  c : Cls w (KS r bt bo bm vl vt ho) us S.cl
  t : MapF eBool w bt nt (onF S)
  o : MapF eSl w bo no ho
  of : ∀ x, Row w 3 1 (hv ho x) (S.ofL x).length ((S.ofL x).map fun i => iv (i : Nat))
  m : MapF eMark w bm nm (markF S)
  tr : Row w 3 1 vt S.tr.length (S.T.map iv)
  d : r ≠ bt ∧ r ≠ bo ∧ r ≠ bm ∧ bt ≠ bo ∧ bt ≠ bm ∧ bo ≠ bm
  sl : ∀ g, vl.ownBlock = some g → g ≠ r ∧ g ≠ bt ∧ g ≠ bo ∧ g ≠ bm ∧ vt.ownBlock ≠ some g
  st : ∀ g, vt.ownBlock = some g → g ≠ r ∧ g ≠ bt ∧ g ≠ bo ∧ g ≠ bm
  sh : ∀ g, HB ho g → g ≠ r ∧ g ≠ bt ∧ g ≠ bo ∧ g ≠ bm ∧ vl.ownBlock ≠ some g ∧ vt.ownBlock ≠ some g
  sx : ∀ x y g, x ≠ y → (hv ho x).ownBlock = some g → (hv ho y).ownBlock ≠ some g
theorem MapF.tight {α : Type} {E : EKnd α} {w : World} {b n : Nat} {f : Int → Option α} (h : MapF E w b n f) {m : Nat} (hm : ∀ ks : List Int, ks.Nodup → (∀ x ∈ ks, (f x).isSome = true) → ks.length ≤ m) : MapF E w b m f := by
  obtain ⟨cs, ⟨es, clock, hb, F, hs, hD⟩, h2, rfl⟩ := h
  refine ⟨cs, ⟨es, clock, hb, F, ?_, hD⟩, h2, rfl⟩
  have h1 := hm (cs.map (·.1)) h2 (fun x hx => mem_keys.1 hx)
  rw [List.length_map] at h1
  have e : cs.length = es.size := by
    have := congrArg Maps.size hD
    rw [size_datF] at this
    rw [this]
    simp [Maps.size, length_sorted]
  omega
/-- What a literal's variable is called. -/
def vr (l : Int) : Int := max l (-l)
theorem vr_pos {l : Int} (h : l ≠ 0) : 0 < vr l := by unfold vr; omega
theorem find_T {S : RS} (hc : Con S.T) {i : Nat} (hi : i < S.tr.length) {v : Int} (hv : (S.tr.getD i (0, 0)).1 = v ∨ (S.tr.getD i (0, 0)).1 = -v) : (S.tr.find? fun e => decide (e.1 = v ∨ e.1 = -v)) = some (S.tr.getD i (0, 0)) := by
  have hm : S.tr.getD i (0, 0) ∈ S.tr := by rw [List.getD_eq_getElem?_getD, List.getElem?_eq_getElem hi]; exact List.getElem_mem hi
  cases hf : S.tr.find? fun e => decide (e.1 = v ∨ e.1 = -v) with
  | none =>
    rw [List.find?_eq_none] at hf
    exact absurd hv (by simpa using hf _ hm)
  | some e =>
    have h1 := List.find?_some hf
    have h2 := List.mem_of_find?_eq_some hf
    obtain ⟨j, hj, ej⟩ := List.getElem_of_mem h2
    have h1 : e.1 = v ∨ e.1 = -v := by simpa using h1
    have eT : ∀ k (hk : k < S.tr.length), S.T[k]'(by rw [S.T_len]; exact hk) = (S.tr[k]).1 := fun k hk => by simp [RS.T]
    have ei : S.tr.getD i (0, 0) = S.tr[i] := by rw [List.getD_eq_getElem?_getD, List.getElem?_eq_getElem hi]; rfl
    rw [ei] at hv ⊢
    have same : S.T[j]'(by rw [S.T_len]; exact hj) = S.T[i]'(by rw [S.T_len]; exact hi) := by
      have hjT : S.T[j]'(by rw [S.T_len]; exact hj) ∈ S.T := List.getElem_mem _
      have hiT : S.T[i]'(by rw [S.T_len]; exact hi) ∈ S.T := List.getElem_mem _
      have a1 := hc.co _ hjT
      have a2 := hc.co _ hiT
      rw [eT j hj] at hjT a1 ⊢
      rw [eT i hi] at hiT a2 ⊢
      rw [ej] at hjT a1 ⊢
      rcases h1 with h1 | h1 <;> rcases hv with h3 | h3
      · omega
      · exact absurd hiT (by rw [h3, ← h1]; exact a1)
      · exact absurd hjT (by rw [h1, ← h3]; exact a2)
      · omega
    have hij : j = i := by
      have hp := List.pairwise_iff_getElem.1 hc.nd
      rcases Nat.lt_trichotomy j i with h | h | h
      · exact absurd same (hp j i _ _ h)
      · exact h
      · exact absurd same.symm (hp i j _ _ h)
    subst hij
    rw [ej]
theorem find_none {S : RS} {v : Int} (h1 : v ∉ S.T) (h2 : -v ∉ S.T) : (S.tr.find? fun e => decide (e.1 = v ∨ e.1 = -v)) = none := by
  rw [List.find?_eq_none]
  intro e he
  have hm : e.1 ∈ S.T := List.mem_map.2 ⟨e, he, rfl⟩
  simp only [decide_eq_true_eq]
  rintro (h | h)
  · exact h1 (h ▸ hm)
  · exact h2 (h ▸ hm)
/-- What the marks tell of a literal. -/
theorem markF_val {S : RS} (hc : Con S.T) {l : Int} (hl : l ≠ 0) : valR l S.T = match markF S (vr l) with
    | none => 0
    | some p => if p.1 = decide (0 < l) then 1 else -1 := by
  have hp := vr_pos hl
  unfold markF
  rw [if_neg (by omega)]
  by_cases h1 : l ∈ S.T
  · obtain ⟨i, hi, e⟩ := mem_T h1
    rw [find_T hc hi (v := vr l) (by rw [e]; unfold vr; omega), val_pos h1]
    simp only [Option.map_some, e]
    rw [if_pos trivial]
  · by_cases h2 : -l ∈ S.T
    · obtain ⟨i, hi, e⟩ := mem_T h2
      rw [find_T hc hi (v := vr l) (by rw [e]; unfold vr; omega), val_neg h1 h2]
      simp only [Option.map_some, e]
      rw [if_neg]
      intro hh
      rw [decide_eq_decide] at hh
      omega
    · rw [find_none (v := vr l) (by unfold vr; rcases Int.le_total 0 l with h | h <;> (first | (rw [show max l (-l) = l by omega]; exact h1) | (rw [show max l (-l) = -l by omega]; exact h2))) (by unfold vr; rcases Int.le_total 0 l with h | h <;> (first | (rw [show -(max l (-l)) = -l by omega]; exact h2) | (rw [show -(max l (-l)) = l by omega]; exact h1))), val_zero h1 h2]
      rfl
/-- The marks of a trail that has grown. -/
theorem markF_asg {S : RS} {l b : Int} (hl : l ≠ 0) (hv : valR l S.T = 0) : markF (S.asg l b) = upd (markF S) (vr l) (some (decide (0 < l), b)) := by
  obtain ⟨h1, h2⟩ := val_0 hv
  funext y
  unfold upd
  by_cases hy : y = vr l
  · rw [if_pos hy, hy]
    have hp := vr_pos hl
    unfold markF
    rw [if_neg (by omega)]
    show ((S.tr ++ [(l, b)]).find? _).map _ = _
    have hf := find_none (S := S) (v := vr l) (by unfold vr; rcases Int.le_total 0 l with h | h <;> (first | (rw [show max l (-l) = l by omega]; exact h1) | (rw [show max l (-l) = -l by omega]; exact h2))) (by unfold vr; rcases Int.le_total 0 l with h | h <;> (first | (rw [show -(max l (-l)) = -l by omega]; exact h2) | (rw [show -(max l (-l)) = l by omega]; exact h1)))
    rw [List.find?_append, hf]
    have e : decide (l = vr l ∨ l = -vr l) = true := by rw [decide_eq_true_eq]; unfold vr; omega
    simp only [List.find?_cons, e]
    rfl
  · rw [if_neg hy]
    unfold markF
    by_cases h0 : y ≤ 0
    · rw [if_pos h0, if_pos h0]
    · rw [if_neg h0, if_neg h0]
      show ((S.tr ++ [(l, b)]).find? _).map _ = _
      rw [List.find?_append]
      have e : decide (l = y ∨ l = -y) = false := by rw [decide_eq_false_iff_not]; unfold vr at hy; omega
      cases S.tr.find? fun e => decide (e.1 = y ∨ e.1 = -y) with
      | some a => rfl
      | none => simp only [Option.none_or, List.find?_cons, e, List.find?_nil]
end Go.Proofs.Ytknpfopepedmmaa
/-
  Package rup: a literal's value, an assignment, a clause looked at, walked.
-/
namespace Go.Proofs.Ytknpfopepedmmaa
open Go Go.ChangeShapes Go.WideShapes Go.ChangeAt Go.RowKit Go.Maps
set_option linter.unusedVariables false
set_option linter.unusedSimpArgs false
theorem tmM : Try.prog.underlying 70 = some (.map 3 eMark.e) := Try.underlying70
theorem cellB {w w' : World} {b o : Nat} {u : Value} (h : w.cell? ⟨b, o, none⟩ = some u) (hb : Below w.heap.size w w') : w'.cell? ⟨b, o, none⟩ = some u := by
  rw [World.cell?_of_block (w := w) (hb.block b (World.block_lt_of_cell? w _ h))]; exact h
abbrev kp (r : Nat) : Value := .pointer (some ⟨r, 0, none⟩)
theorem lit30.in64 {l : Int} (h : lit30 l) : Go.Proofs.Ytknpfopepedmmaa.in64 (vr l) := by obtain ⟨a, b, c⟩ := h; unfold vr Go.Proofs.Ytknpfopepedmmaa.in64; omega
section
variable {w : World} {r : Nat} {S : RS} {vl vt : Value} {bt bo bm nt no nm : Nat} {us : List Value} {ho : Int → Option (Option (Nat × Nat × Nat))}
set_option maxHeartbeats 1000000 in
set_option maxRecDepth 100000 in
theorem value_ (h : KP w r S vl vt bt bo bm nt no nm us ho) (hc : Con S.T) {l : Int} (hl : lit30 l) : Calls Try.prog 49 #[kp r, .int .i64 l] w fun e w' => e = .returned (.int .i64 (valR l S.T)) ∧ Below w.heap.size w w' := by
  have c3 : w.cell? ⟨r, 3, none⟩ = some (.map (some bm)) := h.b.cell 3
  have hlk := h.m.look_ok tmM hl.in64
  have hv := Lib.hid (markF_val hc hl.1)
  have hw : IntKind.i64.wrap (-l) = -l := IntWalk.i64_in _ (by obtain ⟨a, b, c⟩ := hl; omega)
  have hm : (if l < -l then -l else l) = vr l := by unfold vr; split <;> omega
  generalize markF S (vr l) = mk at *
  generalize valR l S.T = vv at *
  have HB : Hid (∀ c, Below w.heap.size w (w.alloc c)) := Lib.hid fun c => (Below.refl _ w).alloc (Nat.le_refl _) c
  clear h hc hl
  cases mk with
  | none =>
    have HF : Hid (Ending.returned (.int .i64 0) = .returned (.int .i64 vv)) := Lib.hid (by rw [hv.out])
    replace hlk : (Instr.lookup 70 (.map (some bm)) (.int .i64 (vr l)) true).run Try.prog w = .ok (.tuple #[.agg #[.bool false, .int .i64 0], .bool false]) w := hlk
    clear hv
    go_enter Try.func49, Try.ntmps49
    go_wp2
    go_ret
    exact ⟨HF.out, HB.out _⟩
  | some p =>
    obtain ⟨b, n⟩ := p
    replace hlk : (Instr.lookup 70 (.map (some bm)) (.int .i64 (vr l)) true).run Try.prog w = .ok (.tuple #[.agg #[.bool b, .int .i64 n], .bool true]) w := hlk
    by_cases hb : b = decide (0 < l)
    · have HF : Hid (Ending.returned (.int .i64 1) = .returned (.int .i64 vv)) := Lib.hid (by rw [hv.out]; simp only; rw [if_pos hb])
      have e1 : (b == decide (0 < l)) = true := by simpa using hb
      clear hv hb
      go_enter Try.func49, Try.ntmps49
      go_wp2
      go_ret
      exact ⟨HF.out, HB.out _⟩
    · have HF : Hid (Ending.returned (.int .i64 (-1)) = .returned (.int .i64 vv)) := Lib.hid (by rw [hv.out]; simp only; rw [if_neg hb])
      have e1 : (b == decide (0 < l)) = false := by simpa using hb
      clear hv hb
      go_enter Try.func49, Try.ntmps49
      go_wp2
      go_ret
      exact ⟨HF.out, HB.out _⟩
theorem mark_keys {ks : List Int} (hn : ks.Nodup) (h : ∀ x ∈ ks, 0 < x ∧ x ≤ 1073741824) : ks.length ≤ 1073741824 := by
  have hs : (ks.map fun x => x.natAbs - 1).Nodup := by
    refine List.Pairwise.map _ ?_ (List.Pairwise.and_mem.1 hn)
    intro a b ⟨ha, hb, hne⟩ he
    have a0 := (h a ha).1
    have b0 := (h b hb).1
    omega
  have := hs.length_le_of_subset (l₂ := List.range 1073741824) (fun v hv => by
    obtain ⟨x, hx, rfl⟩ := List.mem_map.1 hv
    obtain ⟨x1, x2⟩ := h x hx
    rw [List.mem_range]; omega)
  simpa using this
theorem markF_in {S : RS} (hc : Con S.T) {x : Int} (h : (markF S x).isSome = true) : 0 < x ∧ x ≤ 1073741824 := by
  unfold markF at h
  split at h
  · simp at h
  · refine ⟨by omega, ?_⟩
    cases hf : S.tr.find? fun e => decide (e.1 = x ∨ e.1 = -x) with
    | none => rw [hf] at h; simp at h
    | some e =>
      have h1 := List.find?_some hf
      have h2 : e.1 ∈ S.T := List.mem_map.2 ⟨e, List.mem_of_find?_eq_some hf, rfl⟩
      obtain ⟨-, l1, l2⟩ := hc.li _ h2
      have h1 : e.1 = x ∨ e.1 = -x := by simpa using h1
      omega
theorem KP.asg (h : KP w r S vl vt bt bo bm nt no nm us ho) {l b : Int} (hl : l ≠ 0) (hv : valR l S.T = 0) {w1 w2 : World} {v' : Value} {nm' : Nat}
    (hm : MapF eMark w1 bm nm' (upd (markF S) (vr l) (some (decide (0 < l), b)))) (c1 : Chg (fun k => k = bm) w w1)
    (hp : AppPost (w1.alloc (.cells #[.int .i64 l] 3)) 3 1 vt (S.tr.length + 1) (S.T.map iv ++ [.int .i64 l]) v' w2) :
    KP (w2.setCell ⟨r, 4, none⟩ v') r (S.asg l b) vl v' bt bo bm nt no nm' us ho ∧ Chg (fun k => k = r ∨ k = bm ∨ vt.ownBlock = some k) w (w2.setCell ⟨r, 4, none⟩ v') ∧ (v'.ownBlock = vt.ownBlock ∨ ∃ g, v'.ownBlock = some g ∧ w.heap.size ≤ g) ∧ Blk w2 r 72 #[vl, .map (some bt), .map (some bo), .map (some bm), vt, .int .i64 (S.base : Nat), .int .i64 S.bk] := by
  obtain ⟨p1, p2, p3⟩ := hp
  obtain ⟨d1, d2, d3, d4, d5, d6⟩ := h.d
  have hr2 : w.heap.size ≤ (w1.alloc (.cells #[.int .i64 l] 3)).heap.size := by have := c1.size; simp; omega
  have own' : v'.ownBlock = vt.ownBlock ∨ ∃ g, v'.ownBlock = some g ∧ w.heap.size ≤ g := by
    rcases p3 with e | e
    · exact .inl e
    · exact .inr ⟨_, e, hr2⟩
  have c2 : Chg (fun k => k = bm ∨ vt.ownBlock = some k) w w2 := (((c1.mono (S' := fun k => k = bm ∨ vt.ownBlock = some k) (fun i hi => .inl hi)).alloc _).trans p2 (fun i hi => .inl (.inr hi)))
  have hb2 : Blk w2 r 72 _ := h.b.chg c2 (fun e => by
    rcases e with e | e
    · exact d3 e
    · exact (h.st r e).1 rfl)
  have c3 : Chg (fun k => k = r ∨ k = bm ∨ vt.ownBlock = some k) w (w2.setCell ⟨r, 4, none⟩ v') := (c2.mono (S' := fun k => k = r ∨ k = bm ∨ vt.ownBlock = some k) (fun i hi => .inr hi)).setCell (p := ⟨r, 4, none⟩) (.inl (.inl rfl)) _
  have lt' : ∀ g, g < w.heap.size → v'.ownBlock = some g → vt.ownBlock = some g := fun g hg e => by
    rcases own' with e' | ⟨g', e', hg'⟩
    · rw [← e']; exact e
    · rw [e'] at e; injection e with e; omega
  have hbl : ∀ g, HB ho g → g < w.heap.size := fun g hg => by
    obtain ⟨x, hx⟩ := hg
    exact (h.of x).lt g hx
  have bl := h.b.lt
  have tl := h.t.lt
  have ol := h.o.lt
  have ml := h.m.lt
  have nv : ∀ g, g < w.heap.size → (g = r ∨ g = bm ∨ vt.ownBlock = some g) → g = r ∨ g = bm ∨ vt.ownBlock = some g := fun g _ h => h
  refine ⟨⟨hb2.set_ 4 v', h.l.chg c3 (fun g hg hS => ?_), ?_, h.t.chg c3 (fun hS => ?_), h.o.chg c3 (fun hS => ?_), fun x => (h.of x).chg c3 (fun g hg hS => ?_), ?_, ?_, h.d, fun g hg => ?_, fun g hg => ?_, fun g hg => ?_, h.sx⟩, c3, own', hb2⟩
  · obtain ⟨a1, a2, a3, a4, a5⟩ := h.sl g hg
    rcases hS with e | e | e
    · exact a1 e
    · exact a4 e
    · exact a5 e
  · refine ((h.c.mono (S' := fun g => KS r bt bo bm vl vt ho g ∨ w.heap.size ≤ g) (fun g hg hS => hS.resolve_right (by omega))).chg c3 (fun g hg hS => ?_)).mono (fun g hg hS => ?_)
    · rcases hS with e | e | e
      · exact .inl (.inl e)
      · exact .inl (.inr (.inr (.inr (.inl e))))
      · exact .inl (.inr (.inr (.inr (.inr (.inr (.inl e))))))
    · rcases hS with e | e | e | e | e | e | e
      · exact .inl (.inl e)
      · exact .inl (.inr (.inl e))
      · exact .inl (.inr (.inr (.inl e)))
      · exact .inl (.inr (.inr (.inr (.inl e))))
      · exact .inl (.inr (.inr (.inr (.inr (.inl e)))))
      · rcases own' with e' | ⟨g', e', hg'⟩
        · rw [e'] at e; exact .inl (.inr (.inr (.inr (.inr (.inr (.inl e))))))
        · rw [e'] at e; injection e with e; exact .inr (by omega)
      · exact .inl (.inr (.inr (.inr (.inr (.inr (.inr e))))))
  · rcases hS with e | e | e
    · exact d1 e.symm
    · exact d5 e
    · exact (h.st _ e).2.1 rfl
  · rcases hS with e | e | e
    · exact d2 e.symm
    · exact d6 e
    · exact (h.st _ e).2.2.1 rfl
  · obtain ⟨a1, a2, a3, a4, a5, a6⟩ := h.sh g ⟨x, hg⟩
    rcases hS with e | e | e
    · exact a1 e
    · exact a4 e
    · exact a6 e
  · rw [markF_asg hl hv]
    refine ((hm.chg (S := fun k => vt.ownBlock = some k) ((Chg.refl (fun k => vt.ownBlock = some k) w1).alloc (.cells #[.int .i64 l] 3)) (fun e => (h.st _ e).2.2.2 rfl)).chg p2 (fun e => (h.st _ e).2.2.2 rfl)).chg (S := fun k => k = r) ((Chg.refl (fun k => k = r) w2).setCell (p := ⟨r, 4, none⟩) (.inl rfl) _) (fun e => d3 e.symm)
  · have e1 : (S.asg l b).tr.length = S.tr.length + 1 := by simp [RS.asg]
    rw [e1, S.T_asg, List.map_append]
    refine Row.setCell p1 (fun e => ?_) v'
    have := lt' r bl e
    exact (h.st r this).1 rfl
  · obtain ⟨a1, a2, a3, a4, a5⟩ := h.sl g hg
    refine ⟨a1, a2, a3, a4, fun e => a5 (lt' g (h.l.lt g hg) e)⟩
  · by_cases hlt : g < w.heap.size
    · exact h.st g (lt' g hlt hg)
    · exact ⟨by omega, by omega, by omega, by omega⟩
  · obtain ⟨a1, a2, a3, a4, a5, a6⟩ := h.sh g hg
    exact ⟨a1, a2, a3, a4, a5, fun e => a6 (lt' g (hbl g hg) e)⟩
def AsgQ (w : World) (r : Nat) (S : RS) (vl vt : Value) (bt bo bm nt no : Nat) (us : List Value) (ho : Int → Option (Option (Nat × Nat × Nat))) (w' : World) : Prop :=
  ∃ vt' nm', KP w' r S vl vt' bt bo bm nt no nm' us ho ∧ Chg (fun k => k = r ∨ k = bm ∨ vt.ownBlock = some k) w w' ∧ (vt'.ownBlock = vt.ownBlock ∨ ∃ g, vt'.ownBlock = some g ∧ w.heap.size ≤ g)
set_option maxHeartbeats 1000000 in
set_option maxRecDepth 100000 in
theorem assign_ (h : KP w r S vl vt bt bo bm nt no nm us ho) (hc : Con S.T) {l b : Int} (hl : lit30 l) (hv : valR l S.T = 0) : Calls Try.prog 50 #[kp r, .int .i64 l, .int .i64 b] w fun e w' => e = .returned (.tuple #[]) ∧ AsgQ w r (S.asg l b) vl vt bt bo bm nt no us ho w' := by
  have c3 : w.cell? ⟨r, 3, none⟩ = some (.map (some bm)) := h.b.cell 3
  have hw : IntKind.i64.wrap (-l) = -l := IntWalk.i64_in _ (by obtain ⟨a, b, c⟩ := hl; omega)
  have hm : (if l < -l then -l else l) = vr l := by unfold vr; split <;> omega
  have hlen : S.tr.length ≤ 1073741824 := by rw [← S.T_len]; exact hc.len
  obtain ⟨w1, hst, hmf, c1⟩ := (h.m.tight (m := 1073741824) (fun ks hn hk => mark_keys hn (fun x hx => markF_in hc (hk x hx)))).store tmM (by unfold maxLen; omega) hl.in64 (decide (0 < l), b)
  replace hst : (Instr.mapUpdate 70 (.map (some bm)) (.int .i64 (vr l)) (.agg #[.bool (decide (0 < l)), .int .i64 b])).run Try.prog w = .ok () w1 := hst
  have c4 : w1.cell? ⟨r, 4, none⟩ = some vt := by
    have := (h.b.chg c1 h.d.2.2.1).cell 4
    exact this
  have HTR := Lib.hid (h.tr.chg c1 (fun g hg e => (h.st g hg).2.2.2 e))
  have HH := Lib.hid h
  have HMF := Lib.hid hmf
  have HC1 := Lib.hid c1
  have HL0 := Lib.hid hl.1
  have HV := Lib.hid hv
  have hl4 : r < w1.heap.size := by have := h.b.lt; have := c1.size; omega
  clear h hc hmf c1 hv hl
  go_enter Try.func50, Try.ntmps50
  go_wp2_with (at_builtin; refine wpList_app rfl _ _ _ rfl 3 (.int .i64 0) 1 8 Try.underlying28 infoI rfl (by decide) vt S.tr.length (S.T.map iv) rfl ?ho _ _ 1 1 [.int .i64 l] rfl rfl ?hn ?hs ?c1 ?c2 ?_)
  case ho => exact HTR.out.alloc _
  case hn => exact cellNew _ _ _ _ (by simp)
  case hs => exact oneCell1 rfl
  case c1 => unfold maxLen; omega
  case c2 => omega
  intro v3 wB hpF
  obtain ⟨g3, cp3, rfl, -, -, -⟩ := hpF.1.some_ (by omega)
  obtain ⟨a1, a2, a3, a4⟩ := HH.out.asg HL0.out HV.out HMF.out HC1.out hpF
  have kB4 : wB.cell? ⟨r, 4, none⟩ = some vt := a4.cell 4
  have rB4 : wB.frozen? ⟨r, 4, none⟩ = false := a4.frozen 4
  have HF : Hid (AsgQ w r (S.asg l b) vl vt bt bo bm nt no us ho (wB.setCell ⟨r, 4, none⟩ (.slice (some ⟨g3, 0, none⟩) (S.tr.length + 1) cp3))) := Lib.hid ⟨_, _, a1, a2, a3⟩
  clear hpF a1 a2 a3 a4
  go_wp2
  go_returns
  exact ⟨rfl, HF.out⟩
end
end Go.Proofs.Ytknpfopepedmmaa
/-
  Package rup: a clause looked at, walked.
-/
namespace Go.Proofs.Ytknpfopepedmmaa
open Go Go.ChangeShapes Go.WideShapes Go.ChangeAt Go.RowKit Go.Maps
set_option linter.unusedVariables false
set_option linter.unusedSimpArgs false
def lookG (T : List Int) : List Int → Int → Bool × Int
  | [], t => (decide (t = 0), t)
  | x :: r, t => if valR x T = 1 then (false, 0) else if valR x T = 0 then (if t ≠ 0 then (false, 0) else lookG T r x) else lookG T r t
theorem lookG_some (T : List Int) : ∀ (r : List Int) (t : Int), t ≠ 0 → t ∉ r → lookG T r t = (false, telG T r t)
  | [], t, h, _ => by unfold lookG telG; simp [h]
  | x :: r, t, h, hn => by
    have hx : t ≠ x := fun e => hn (by rw [e]; exact List.mem_cons_self)
    have hr : t ∉ r := fun e => hn (List.mem_cons_of_mem _ e)
    unfold lookG telG
    by_cases h1 : valR x T = 1
    · rw [if_pos h1, if_pos h1]
    · rw [if_neg h1, if_neg h1]
      by_cases h0 : valR x T = 0
      · rw [if_pos h0, if_pos h0, if_pos h, if_pos ⟨h, hx⟩]
      · rw [if_neg h0, if_neg h0]
        exact lookG_some T r t h hr
theorem lookG_zero (T : List Int) : ∀ (r : List Int), (∀ y ∈ r, y ≠ 0) → r.Nodup → lookG T r 0 = (falR r T, telG T r 0)
  | [], _, _ => by unfold lookG telG falR; simp
  | x :: r, h0, hn => by
    have hx0 := h0 x List.mem_cons_self
    rw [List.nodup_cons] at hn
    have ih := lookG_zero T r (fun y hy => h0 y (List.mem_cons_of_mem _ hy)) hn.2
    unfold lookG telG falR
    rw [List.all_cons]
    rcases valR_cases x T with e | e | e
    · rw [if_pos e, if_pos e, e]; rfl
    · rw [if_neg (by omega), if_pos e, if_neg (by omega), if_neg (by omega), if_pos e, if_neg (by omega), lookG_some T r x hx0 hn.1, e]; rfl
    · rw [if_neg (by omega), if_neg (by omega), if_neg (by omega), if_neg (by omega), ih, e]
      unfold falR
      simp
theorem look_eq {c T : List Int} (h0 : Lit30s c) (hn : c.Nodup) : lookG T c 0 = (falR c T, telR c T) := lookG_zero T c (fun y hy => (h0 y hy).1) hn
section
variable {w : World} {r : Nat} {S : RS} {vl vt : Value} {bt bo bm nt no nm : Nat} {us : List Value} {ho : Int → Option (Option (Nat × Nat × Nat))}
theorem KP.below (h : KP w r S vl vt bt bo bm nt no nm us ho) {w' : World} (hb : Below w.heap.size w w') : KP w' r S vl vt bt bo bm nt no nm us ho := by
  have hc : Chg (fun _ => False) w w' := Chg.of_below hb
  exact ⟨h.b.chg hc (fun e => e), h.l.chg hc (fun _ _ e => e), h.c.below hb, h.t.chg hc (fun e => e), h.o.chg hc (fun e => e), fun x => (h.of x).chg hc (fun _ _ e => e), h.m.chg hc (fun e => e), h.tr.chg hc (fun _ _ e => e), h.d, h.sl, h.st, h.sh, h.sx⟩
set_option maxHeartbeats 2000000 in
set_option maxRecDepth 100000 in
theorem look_ (h : KP w r S vl vt bt bo bm nt no nm us ho) (hc : Con S.T) {u : Value} {c : List Int} (hu : Ints w u c) (hl : Lit30s c) (hn : c.Nodup) :
    Calls Try.prog 67 #[kp r, u] w fun e w' => e = .returned (.tuple #[.bool (falR c S.T), .int .i64 (telR c S.T)]) ∧ Below w.heap.size w w' := by
  obtain ⟨a, cap, hv, -, h1, h2, hcell⟩ := hu
  subst hv
  have HE := Lib.hid (look_eq (T := S.T) hl hn)
  obtain ⟨wr0, hwr⟩ : ∃ R, R = (falR c S.T, telR c S.T) := ⟨_, rfl⟩
  rw [← hwr] at HE
  have e1 : falR c S.T = wr0.1 := by rw [hwr]
  have e2 : telR c S.T = wr0.2 := by rw [hwr]
  rw [e1, e2]
  obtain ⟨m, hm⟩ : ∃ m, m = c.length := ⟨_, rfl⟩
  rw [← hm] at h1 ⊢
  have hm9 : m ≤ 9223372036854775807 := Nat.le_trans h1 h2
  have HV : Hid (∀ W x, Below w.heap.size w W → x ∈ c → Calls Try.prog 49 #[kp r, .int .i64 x] W fun e w' => e = .returned (.int .i64 (valR x S.T)) ∧ Below W.heap.size W w') := Lib.hid fun W x hW hx => value_ (h.below hW) hc (hl x hx)
  have HC := Lib.hid hcell
  have HM := Lib.hid hm
  clear h hc hl hn hwr e1 e2 hm h1 h2 hcell
  go_enter Try.func67, Try.ntmps67
  go_wp2
  go_loopw [5, 10] (fun t i wr => ∃ (k : Nat) (tt : Int), k ≤ m ∧ i = .int .i64 k ∧ t = .int .i64 tt ∧ lookG S.T (c.drop k) tt = wr0 ∧ Below w.heap.size w wr) (fun _ i _ => m - (intOf i).toNat)
  case atStart => exact ⟨0, 0, Nat.zero_le _, rfl, rfl, HE.out, Below.refl _ _⟩
  case round =>
    obtain ⟨k, tt, hk, rfl, rfl, hg, hb⟩ := hrel
    have HB := Lib.hid hb
    have HG := Lib.hid hg
    clear hb hg
    by_cases hlt : (k : Int) < (m : Int)
    · have hkc : k < c.length := by have := HM.out; omega
      have hd : c.drop k = c.getD k 0 :: c.drop (k + 1) := by
        rw [List.drop_eq_getElem_cons hkc, List.getD_eq_getElem?_getD, List.getElem?_eq_getElem hkc]; rfl
      have hxc : c.getD k 0 ∈ c := by rw [List.getD_eq_getElem?_getD, List.getElem?_eq_getElem hkc]; exact List.getElem_mem hkc
      obtain ⟨bb, off, rfl, hq⟩ := HC.out.resolve_left (fun e => by rw [e] at hkc; simp at hkc)
      have q1 := cellB (hq k hkc) HB.out
      obtain ⟨x, hx⟩ : ∃ x, x = c.getD k 0 := ⟨_, rfl⟩
      rw [← hx] at hd hxc q1
      have hG := HG.out
      rw [hd, lookG] at hG
      have HVX := Lib.hid (HV.out wr x HB.out hxc)
      obtain ⟨vx, hvx⟩ : ∃ vx, vx = valR x S.T := ⟨_, rfl⟩
      have hcs := valR_cases x S.T
      rw [← hvx] at HVX hG hcs
      have HGG := Lib.hid hG
      clear hG hd hxc hx hkc hq hvx
      go_wp2_with fail
      refine HVX.out.mono ?_
      rintro e w1 ⟨rfl, hb1⟩
      have HB1 := Lib.hid (HB.out.trans (hb1.mono HB.out.size))
      clear hb1
      rcases hcs with rfl | rfl | rfl
      · have HF : Hid (Ending.returned (.tuple #[.bool false, .int .i64 0]) = .returned (.tuple #[.bool wr0.1, .int .i64 wr0.2])) := Lib.hid (by have := HGG.out; rw [if_pos rfl] at this; rw [← this])
        go_wp2
        go_returns
        exact ⟨HF.out, HB1.out⟩
      · have hG := HGG.out
        rw [if_neg (by omega), if_pos rfl] at hG
        by_cases ht : tt = 0
        · rw [if_neg (by omega)] at hG
          have HGN := Lib.hid hG
          have hh : (tt != 0) = false := by rw [ht]; rfl
          clear hG
          subst ht
          go_wp2
          go_roundw
          case rel => exact ⟨k + 1, x, by omega, by go_num, rfl, HGN.out, HB1.out⟩
          case measure => simp [intOf]; omega
        · rw [if_pos ht] at hG
          have HF : Hid (Ending.returned (.tuple #[.bool false, .int .i64 0]) = .returned (.tuple #[.bool wr0.1, .int .i64 wr0.2])) := Lib.hid (by rw [← hG])
          have hh : (tt != 0) = true := by rw [bne_iff_ne]; exact ht
          clear hG
          go_wp2
          go_returns
          exact ⟨HF.out, HB1.out⟩
      · have hG := HGG.out
        rw [if_neg (by omega), if_neg (by omega)] at hG
        have HGN := Lib.hid hG
        clear hG
        go_wp2
        go_roundw
        case rel => exact ⟨k + 1, tt, by omega, by go_num, rfl, HGN.out, HB1.out⟩
        case measure => simp [intOf]; omega
    · obtain rfl : k = m := by omega
      have hG := HG.out
      rw [List.drop_eq_nil_of_le (by rw [← HM.out]; exact Nat.le_refl _), lookG] at hG
      have HF : Hid (Ending.returned (.tuple #[.bool (decide (tt = 0)), .int .i64 tt]) = .returned (.tuple #[.bool wr0.1, .int .i64 wr0.2])) := Lib.hid (by rw [← hG])
      have hb2 : decide (tt = 0) = (tt == 0) := by rw [Bool.eq_iff_iff]; simp
      rw [hb2] at HF
      clear hG hb2
      go_wp2
      go_returns
      exact ⟨HF.out, HB.out⟩
end
end Go.Proofs.Ytknpfopepedmmaa
/-
  Package rup: all that is told is spread, walked.
-/
namespace Go.Proofs.Ytknpfopepedmmaa
open Go Go.ChangeShapes Go.WideShapes Go.ChangeAt Go.RowKit Go.Maps
set_option linter.unusedVariables false
set_option linter.unusedSimpArgs false
theorem tmO : Try.prog.underlying 69 = some (.map 3 eSl.e) := Try.underlying69
theorem tmB : Try.prog.underlying 68 = some (.map 3 eBool.e) := Try.underlying68
section
variable {w : World} {r : Nat} {S : RS} {vl vt : Value} {bt bo bm nt no nm : Nat} {us : List Value} {ho : Int → Option (Option (Nat × Nat × Nat))}
theorem KP.asgQ (h : KP w r S vl vt bt bo bm nt no nm us ho) : AsgQ w r S vl vt bt bo bm nt no us ho w := ⟨vt, nm, h, Chg.refl _ _, .inl rfl⟩
theorem AsgQ.trans {w1 w2 : World} {S1 S2 : RS} {vt1 : Value} {nm1 : Nat} (h1 : KP w1 r S1 vl vt1 bt bo bm nt no nm1 us ho) (c1 : Chg (fun k => k = r ∨ k = bm ∨ vt.ownBlock = some k) w w1) (o1 : vt1.ownBlock = vt.ownBlock ∨ ∃ g, vt1.ownBlock = some g ∧ w.heap.size ≤ g)
    (h : AsgQ w1 r S2 vl vt1 bt bo bm nt no us ho w2) : AsgQ w r S2 vl vt bt bo bm nt no us ho w2 := by
  obtain ⟨vt2, nm2, k, c2, o2⟩ := h
  refine ⟨vt2, nm2, k, c1.trans c2 (fun i hi => ?_), ?_⟩
  · rcases hi with e | e | e
    · exact .inl (.inl e)
    · exact .inl (.inr (.inl e))
    · rcases o1 with o1 | ⟨g, o1, hg⟩
      · rw [o1] at e; exact .inl (.inr (.inr e))
      · rw [o1] at e; injection e with e; exact .inr (by omega)
  · rcases o2 with o2 | ⟨g, o2, hg⟩
    · rcases o1 with o1 | ⟨g, o1, hg⟩
      · exact .inl (o2.trans o1)
      · exact .inr ⟨g, o2.trans o1, hg⟩
    · exact .inr ⟨g, o2, Nat.le_trans c1.size hg⟩
theorem AsgQ.below {w1 w2 : World} (h : AsgQ w r S vl vt bt bo bm nt no us ho w1) (hb : Below w1.heap.size w1 w2) : AsgQ w r S vl vt bt bo bm nt no us ho w2 := by
  obtain ⟨vt1, nm1, k, c, o⟩ := h
  exact ⟨vt1, nm1, k.below hb, c.trans (Chg.of_below (S := fun _ => False) hb) (fun i hi => hi.elim), o⟩
theorem on_look (h : KP w r S vl vt bt bo bm nt no nm us ho) {i : Nat} (hi : i < 4611686018427387904) : (Instr.lookup 68 (.map (some bt)) (.int .i64 (i : Nat)) false).run Try.prog w = .ok (.bool (S.onA i)) w := by
  have := h.t.look tmB (x := (i : Int)) ⟨by omega, by omega⟩
  rw [this]
  unfold onF
  cases hh : S.onA i with
  | true => rw [if_pos ⟨by omega, by rw [Int.toNat_natCast]; exact hh⟩]; rfl
  | false => rw [if_neg (fun hx => by rw [Int.toNat_natCast, hh] at hx; exact absurd hx.2 (by decide))]; rfl
theorem of_look (h : KP w r S vl vt bt bo bm nt no nm us ho) {x : Int} (hx : in64 x) : (Instr.lookup 69 (.map (some bo)) (.int .i64 x) false).run Try.prog w = .ok (hv ho x) w := h.o.look tmO hx
/-- What the spread comes to, in memory. -/
def SprQ (w : World) (r : Nat) (R : RS × Int) (vl vt : Value) (bt bo bm nt no : Nat) (us : List Value) (ho : Int → Option (Option (Nat × Nat × Nat))) (e : Ending) (w' : World) : Prop := e = .returned (.int .i64 R.2) ∧ AsgQ w r R.1 vl vt bt bo bm nt no us ho w'
theorem us_at (h : KP w r S vl vt bt bo bm nt no nm us ho) {i : Nat} (hi : i < S.cl.length) : ∃ g cap a c2, vl = .slice (some ⟨g, 0, none⟩) S.cl.length cap ∧ w.cell? ⟨g, i, none⟩ = some (.slice a (S.c i).length c2) ∧ Ints w (.slice a (S.c i).length c2) (S.c i) := by
  rcases h.l.form with ⟨-, h0, -⟩ | ⟨g, cap, e, -, -, -, hc⟩
  · omega
  · have h1 := hc i (by rw [h.c.1]; exact hi)
    have h2 := (h.c.2 i hi).1
    obtain ⟨a, c2, e2, -⟩ := h2
    have e3 : us.getD i undef = .slice a (S.c i).length c2 := e2
    refine ⟨g, cap, a, c2, e, ?_, ?_⟩
    · rw [h1.1, e3]
    · have h2 := (h.c.2 i hi).1
      rw [e3] at h2
      exact h2
set_option maxHeartbeats 8000000 in
set_option maxRecDepth 100000 in
theorem spread_ {A : List Int} (h : KP w r S vl vt bt bo bm nt no nm us ho) (hI : RInv S A) (hcl : S.cl.length ≤ 1000000) {p : Nat} (hp : p ≤ S.tr.length) {f : Nat} (hf : 1073741824 < f + p) :
    Calls Try.prog 51 #[kp r, .int .i64 (p : Nat)] w (SprQ w r (RS.spread f S p) vl vt bt bo bm nt no us ho) := by
  obtain ⟨R, hR⟩ : ∃ R, R = RS.spread f S p := ⟨_, rfl⟩
  rw [← hR]
  have H0 : Hid (∃ (fx q : Nat) (T : RS), (p : Int) = (q : Int) ∧ q ≤ T.tr.length ∧ AsgQ w r T vl vt bt bo bm nt no us ho w ∧ RInv T A ∧ T.cl = S.cl ∧ RS.spread fx T q = R ∧ 1073741824 < fx + q) := Lib.hid ⟨f, p, S, rfl, hp, h.asgQ, hI, rfl, hR.symm, hf⟩
  have HCL := Lib.hid hcl
  clear h hI hcl hp hf hR
  go_enter Try.func51, Try.ntmps51
  go_wp2
  go_loopw [1] (fun c wr => ∃ (fx q : Nat) (T : RS), c = .int .i64 (q : Nat) ∧ q ≤ T.tr.length ∧ AsgQ w r T vl vt bt bo bm nt no us ho wr ∧ RInv T A ∧ T.cl = S.cl ∧ RS.spread fx T q = R ∧ 1073741824 < fx + q) (fun c _ => 1073741825 - (intOf c).toNat)
  case atStart =>
    obtain ⟨fx, q, T, h1, h2⟩ := H0.out
    exact ⟨fx, q, T, by rw [h1], h2⟩
  case round =>
    obtain ⟨fx, q, T, rfl, hq, hK, hI, hTC, hS, hfx⟩ := hrel
    obtain ⟨vt1, nm1, hk, hch, hown⟩ := hK
    have hlen : T.tr.length ≤ 1073741824 := by rw [← T.T_len]; exact hI.con.len
    have c4 : wr.cell? ⟨r, 4, none⟩ = some vt1 := hk.b.cell 4
    have c2 : wr.cell? ⟨r, 2, none⟩ = some (.map (some bo)) := hk.b.cell 2
    have HK := Lib.hid hk
    have HCH := Lib.hid hch
    have HOWN := Lib.hid hown
    have HI := Lib.hid hI
    have HTC := Lib.hid hTC
    have HS := Lib.hid hS
    obtain ⟨at1, ct1, hvt1⟩ : ∃ a c, vt1 = .slice a T.tr.length c := by
      rcases hk.tr.form with ⟨e, e0, -⟩ | ⟨g, cap, e, -⟩
      · exact ⟨none, 0, by rw [e, e0]⟩
      · exact ⟨_, _, e⟩
    obtain ⟨nt1, hnt1⟩ : ∃ n, n = T.tr.length := ⟨_, rfl⟩
    have HNT := Lib.hid hnt1
    rw [← hnt1] at hvt1 hq hlen
    clear hI hch hown hS hTC hnt1
    by_cases hlt : (q : Int) < (nt1 : Int)
    · have hqt : q < T.tr.length := by have := HNT.out; omega
      obtain ⟨f', hff⟩ : ∃ f', fx = f' + 1 := ⟨fx - 1, by omega⟩
      have HFF : Hid (1073741824 < f' + (q + 1)) := Lib.hid (by omega)
      obtain ⟨l, hl⟩ : ∃ l, l = (T.tr.getD q (0, 0)).1 := ⟨_, rfl⟩
      have hlB : lit30 l := by
        rw [hl, ← getD_T, List.getD_eq_getElem?_getD, List.getElem?_eq_getElem (by rw [T.T_len]; exact hqt)]
        exact HI.out.con.li _ (List.getElem_mem _)
      have hcell : ∃ g cap, vt1 = .slice (some ⟨g, 0, none⟩) nt1 cap ∧ wr.cell? ⟨g, q, none⟩ = some (.int .i64 l) := by
        rcases HK.out.tr.form with ⟨-, h0, -⟩ | ⟨g, cap, e, -, -, -, hc⟩
        · omega
        · refine ⟨g, cap, by rw [e, HNT.out], ?_⟩
          rw [(hc q (by rw [List.length_map, T.T_len]; exact hqt)).1, hl, ← getD_T]
          rw [List.getD_eq_getElem?_getD, List.getElem?_map, List.getD_eq_getElem?_getD, List.getElem?_eq_getElem (by rw [T.T_len]; exact hqt)]
          rfl
      obtain ⟨g, cap, hvg, hcg⟩ := hcell
      rw [hvg] at hvt1 c4
      have hw : IntKind.i64.wrap (-l) = -l := IntWalk.i64_in _ (by obtain ⟨a, b, c⟩ := hlB; omega)
      have hin : in64 (-l) := by obtain ⟨a, b, c⟩ := hlB; exact ⟨by omega, by omega⟩
      have hlk := of_look HK.out hin
      obtain ⟨ids, hids⟩ : ∃ ids, ids = T.ofL (-l) := ⟨_, rfl⟩
      have hrow : ∀ W ho', Row W 3 1 (hv ho' (-l)) ids.length (ids.map fun i => iv (i : Nat)) → True := fun _ _ _ => trivial
      obtain ⟨ah, ch, hvh⟩ : ∃ a c, hv ho (-l) = .slice a ids.length c := by
        have hof := HK.out.of (-l)
        rw [← hids] at hof
        rcases hof.form with ⟨e, e0, -⟩ | ⟨g, cap, e, -⟩
        · exact ⟨none, 0, by rw [e, e0]⟩
        · exact ⟨_, _, e⟩
      rw [hvh] at hlk
      have hlkd : (Instr.lookup 69 (.map (some bo)) (.int .i64 (-l)) false).run Try.prog wr.drew = .ok (.slice ah ids.length ch) wr.drew := by
        have := of_look (HK.out.below (Below.refl _ wr).drew) hin
        rw [hvh] at this
        exact this
      have HS2 : Hid ((if (T.visit ids).2 = -1 then (T.visit ids).1.spread f' (q + 1) else T.visit ids) = R) := Lib.hid (by
        have e := HS.out
        rw [hff, RS.spread, if_pos hqt, ← hl, ← hids] at e
        exact e)
      have HIDS : Hid (∀ i ∈ ids, i < T.cl.length) := Lib.hid fun i hi => by rw [hids] at hi; exact (ofL_mem.1 hi).1
      have HROW : Hid (∀ (W : World) (T2 : RS) (vt2 : Value) (nm2 : Nat), T2.cl = T.cl → KP W r T2 vl vt2 bt bo bm nt no nm2 us ho → ∀ j, j < ids.length → ∃ gh, ah = some ⟨gh, 0, none⟩ ∧ W.cell? ⟨gh, j, none⟩ = some (.int .i64 ((ids.getD j 0 : Nat) : Int))) := Lib.hid fun W T2 vt2 nm2 he hk2 j hj => by
        have hof := hk2.of (-l)
        have e1 : T2.ofL (-l) = ids := by rw [hids]; unfold RS.ofL RS.c; rw [he]
        rw [e1, hvh] at hof
        rcases hof.form with ⟨e, e0, -⟩ | ⟨gh, cap, e, -, -, -, hc⟩
        · omega
        · injection e with ea eb ec
          refine ⟨gh, ea, ?_⟩
          rw [(hc j (by rw [List.length_map]; exact hj)).1, List.getD_eq_getElem?_getD, List.getElem?_map, List.getD_eq_getElem?_getD, List.getElem?_eq_getElem hj]
          rfl
      obtain ⟨m, hm⟩ : ∃ m, m = ids.length := ⟨_, rfl⟩
      have HM := Lib.hid hm
      have hm9 : m ≤ 1000000 := by
        have h1 : ids.length ≤ (List.range T.cl.length).length := by rw [hids]; exact List.length_filter_le _ _
        rw [List.length_range, HTC.out] at h1
        have := HCL.out; omega
      rw [← hm] at hlk hlkd
      have HV0 : Hid (∃ V, V = T.visit ids) := Lib.hid ⟨_, rfl⟩
      obtain ⟨V, hV⟩ := HV0.out
      rw [← hV] at HS2
      have HVV := Lib.hid hV
      have HA1 : Hid (AsgQ w r T vl vt bt bo bm nt no us ho wr.drew) := Lib.hid (AsgQ.below ⟨vt1, nm1, HK.out, HCH.out, HOWN.out⟩ (Below.refl _ wr).drew)
      have c4d : wr.drew.cell? ⟨r, 4, none⟩ = some (.slice (some ⟨g, 0, none⟩) nt1 cap) := c4
      have c2d : wr.drew.cell? ⟨r, 2, none⟩ = some (.map (some bo)) := c2
      have hcgd : wr.drew.cell? ⟨g, q, none⟩ = some (.int .i64 l) := hcg
      have HLL := Lib.hid hl
      clear hk hl hids hrow hvh hm hV hff hvg hvt1
      go_wp2
      go_region
      go_wp2
      obtain ⟨wo, rfl⟩ : ∃ wo : World, wo = wr := ⟨_, rfl⟩
      clear hlk hlkd c4d c2d hcgd c4 c2 hcg
      go_loopw [32] (fun c wr => ∃ (j : Nat) (T2 : RS), j ≤ m ∧ c = .int .i64 (j : Nat) ∧ AsgQ w r T2 vl vt bt bo bm nt no us ho wr ∧ RInv T2 A ∧ (T2.cl = T.cl ∧ nt1 ≤ T2.tr.length) ∧ T2.visit (ids.drop j) = V) (fun c _ => m - (intOf c).toNat)
      case atStart => exact ⟨0, T, Nat.zero_le _, rfl, HA1.out, HI.out, ⟨rfl, by rw [HNT.out]; exact Nat.le_refl _⟩, HVV.out.symm⟩
      case round =>
        obtain ⟨j, T2, hj, rfl, hK2, hI2, ⟨hC2, hG2⟩, hV2⟩ := hrel
        obtain ⟨vt2, nm2, hk2, hch2, hown2⟩ := hK2
        have HK2 := Lib.hid hk2
        have HCH2 := Lib.hid hch2
        have HOWN2 := Lib.hid hown2
        have HI2 := Lib.hid hI2
        have HC2 := Lib.hid hC2
        have HG2 := Lib.hid hG2
        have HV2 := Lib.hid hV2
        clear hk2 hch2 hown2 hI2 hC2 hV2 hG2
        by_cases hjl : (j : Int) < (m : Int)
        · have hjd : j < ids.length := by have := HM.out; omega
          obtain ⟨gh, rfl, qi⟩ := HROW.out wr T2 vt2 nm2 HC2.out HK2.out j hjd
          obtain ⟨i, hi⟩ : ∃ i, i = ids.getD j 0 := ⟨_, rfl⟩
          rw [← hi] at qi
          have hd : ids.drop j = i :: ids.drop (j + 1) := by
            rw [List.drop_eq_getElem_cons hjd, hi, List.getD_eq_getElem?_getD, List.getElem?_eq_getElem hjd]; rfl
          have hiT : i < T2.cl.length := by
            rw [HC2.out]
            refine HIDS.out i ?_
            rw [hi, List.getD_eq_getElem?_getD, List.getElem?_eq_getElem hjd]; exact List.getElem_mem hjd
          have hi9 : i < 1000000 := by have h1 := HCL.out; have h2 := HTC.out; have h3 := HC2.out; rw [h3, h2] at hiT; omega
          have k1 : wr.cell? ⟨r, 1, none⟩ = some (.map (some bt)) := HK2.out.b.cell 1
          have hlo := on_look HK2.out (i := i) (by omega)
          have hV := HV2.out
          rw [hd, RS.visit] at hV
          cases hon : T2.onA i with
          | false =>
            rw [hon] at hlo
            rw [if_pos hon] at hV
            have HN := Lib.hid hV
            clear hV hd hi hiT hjd hon
            go_wp2
            go_roundw
            case rel => exact ⟨j + 1, T2, by omega, by go_num, ⟨vt2, nm2, HK2.out, HCH2.out, HOWN2.out⟩, HI2.out, ⟨HC2.out, HG2.out⟩, HN.out⟩
            case measure => simp [intOf]; omega
          | true =>
            rw [hon] at hlo
            rw [if_neg (by rw [hon]; decide)] at hV
            obtain ⟨gl, cl, au, cu, hvl, qu, hu⟩ := us_at HK2.out hiT
            have k0 : wr.cell? ⟨r, 0, none⟩ = some vl := HK2.out.b.cell 0
            obtain ⟨c1, c2⟩ := HI2.out.c0 i hiT
            have HLK := Lib.hid (look_ HK2.out HI2.out.con hu c1 c2)
            have HON := Lib.hid hon
            have HIT := Lib.hid hiT
            have hlen2 : i < T2.cl.length := hiT
            obtain ⟨n2, hn2⟩ : ∃ n, n = T2.cl.length := ⟨_, rfl⟩
            rw [hvl, ← hn2] at k0
            rw [← hn2] at hlen2
            have hlen3 : (i : Int) < (n2 : Int) := by omega
            have HVC := Lib.hid hV
            obtain ⟨nu, hnu⟩ : ∃ n, n = (T2.c i).length := ⟨_, rfl⟩
            rw [← hnu] at qu HLK
            obtain ⟨tl, htl⟩ : ∃ tl, tl = telR (T2.c i) T2.T := ⟨_, rfl⟩
            obtain ⟨fl, hfl⟩ : ∃ fl, fl = falR (T2.c i) T2.T := ⟨_, rfl⟩
            rw [← htl, ← hfl] at HLK
            have HTL := Lib.hid htl
            have HFL := Lib.hid hfl
            clear hV hd hi hiT hjd hon hu c1 c2 hn2 hnu htl hfl hvl hlen2
            go_wp2_with fail
            refine HLK.out.mono ?_
            rintro e w1 ⟨rfl, hb1⟩
            have HK3 := Lib.hid (HK2.out.below hb1)
            have HA3 : Hid (AsgQ w r T2 vl vt bt bo bm nt no us ho w1) := Lib.hid (AsgQ.below ⟨vt2, nm2, HK2.out, HCH2.out, HOWN2.out⟩ hb1)
            have HC3 := Lib.hid (HCH2.out.trans (Chg.of_below (S := fun _ => False) hb1) (fun i hi => hi.elim))
            clear hb1 qu qi
            cases fl with
            | true =>
              have HF : Hid (SprQ w r R vl vt bt bo bm nt no us ho (.returned (.int .i64 (i : Nat))) w1) := Lib.hid (by
                have e1 := HVC.out
                rw [if_pos HFL.out.symm] at e1
                have e2 := HS2.out
                rw [← e1, if_neg (by show ¬ (i : Int) = -1; omega)] at e2
                rw [← e2]
                exact ⟨rfl, HA3.out⟩)
              go_wp2
              go_ret
              exact HF.out
            | false =>
              by_cases ht : tl = 0
              · have HN : Hid (T2.visit (ids.drop (j + 1)) = V) := Lib.hid (by
                  have e1 := HVC.out
                  rw [if_neg (by rw [← HFL.out]; decide), if_neg (by rw [← HTL.out, ht]; decide)] at e1
                  exact e1)
                subst ht
                go_wp2
                go_roundw
                case rel => exact ⟨j + 1, T2, by omega, by go_num, HA3.out, HI2.out, ⟨HC2.out, HG2.out⟩, HN.out⟩
                case measure => simp [intOf]; omega
              · have hne : telR (T2.c i) T2.T ≠ 0 := by rw [← HTL.out]; exact ht
                have HN : Hid ((T2.asg tl (i : Int)).visit (ids.drop (j + 1)) = V) := Lib.hid (by
                  have e1 := HVC.out
                  rw [if_neg (by rw [← HFL.out]; decide), if_pos hne, ← HTL.out] at e1
                  exact e1)
                obtain ⟨t1, t2, t3⟩ := tel_ne (HI2.out.nz HIT.out) hne
                have HI4 : Hid (RInv (T2.asg tl (i : Int)) A) := Lib.hid (by rw [HTL.out]; exact asg_inv HI2.out HIT.out HON.out hne)
                have HAS := Lib.hid (assign_ HK3.out HI2.out.con (l := tl) (b := (i : Int)) (by rw [HTL.out]; exact (HI2.out.c0 i HIT.out).1 _ t1) (by rw [HTL.out]; exact t2))
                have HG4 : Hid (nt1 ≤ (T2.asg tl (i : Int)).tr.length) := Lib.hid (by
                  have e1 : (T2.asg tl (i : Int)).tr.length = T2.tr.length + 1 := by simp [RS.asg]
                  have := HG2.out
                  omega)
                have hh : (tl != 0) = true := by rw [bne_iff_ne]; exact ht
                clear t1 t2 t3 hne
                go_wp2_with fail
                refine HAS.out.mono ?_
                rintro e w2 ⟨rfl, hq2⟩
                have HA4 := Lib.hid (AsgQ.trans HK3.out HC3.out HOWN2.out hq2)
                clear hq2
                go_wp2
                go_roundw
                case rel => exact ⟨j + 1, T2.asg tl (i : Int), by omega, by go_num, HA4.out, HI4.out, ⟨HC2.out, HG4.out⟩, HN.out⟩
                case measure => simp [intOf]; omega
        · obtain rfl : j = m := by omega
          have HN : Hid (RS.spread f' T2 (q + 1) = R) := Lib.hid (by
            have e1 := HV2.out
            rw [List.drop_eq_nil_of_le (by rw [← HM.out]; exact Nat.le_refl _), RS.visit] at e1
            have e2 := HS2.out
            rw [← e1, if_pos rfl] at e2
            exact e2)
          have hw1 : IntKind.i64.wrap ((q : Int) + 1) = (q : Int) + 1 := IntWalk.i64_in _ (by omega)
          go_wp2
          go_roundw
          case rel => exact ⟨f', q + 1, T2, by go_num, by have := HG2.out; omega, ⟨vt2, nm2, HK2.out, HCH2.out, HOWN2.out⟩, HI2.out, HC2.out.trans HTC.out, HN.out, HFF.out⟩
          case measure => simp [intOf]; omega
    · obtain rfl : q = nt1 := by omega
      have HF : Hid (SprQ w r R vl vt bt bo bm nt no us ho (.returned (.int .i64 (-1))) wr) := Lib.hid (by
        obtain ⟨f', rfl⟩ : ∃ f', fx = f' + 1 := ⟨fx - 1, by omega⟩
        have e := HS.out
        rw [RS.spread, if_neg (by have := HNT.out; omega)] at e
        rw [← e]
        exact ⟨rfl, vt1, nm1, HK.out, HCH.out, HOWN.out⟩)
      clear hk
      subst hvt1
      go_wp2
      go_ret
      exact HF.out
end
end Go.Proofs.Ytknpfopepedmmaa
/-
  Package rup: what holds whatever is asked, walked.
-/
namespace Go.Proofs.Ytknpfopepedmmaa
open Go Go.ChangeShapes Go.WideShapes Go.ChangeAt Go.RowKit Go.Maps
set_option linter.unusedVariables false
set_option linter.unusedSimpArgs false
section
variable {w : World} {r : Nat} {S : RS} {vl vt : Value} {bt bo bm nt no nm : Nat} {us : List Value} {ho : Int → Option (Option (Nat × Nat × Nat))}
theorem KP.field (h : KP w r S vl vt bt bo bm nt no nm us ho) {c : Nat} {u : Value} {S' : RS} (e1 : S'.cl = S.cl) (e2 : S'.on = S.on) (e3 : S'.tr = S.tr)
    (hb : Blk (w.setCell ⟨r, c, none⟩ u) r 72 #[vl, .map (some bt), .map (some bo), .map (some bm), vt, .int .i64 (S'.base : Nat), .int .i64 S'.bk]) : KP (w.setCell ⟨r, c, none⟩ u) r S' vl vt bt bo bm nt no nm us ho := by
  have hc : Chg (fun k => k = r) w (w.setCell ⟨r, c, none⟩ u) := (Chg.refl (fun k => k = r) w).setCell (p := ⟨r, c, none⟩) (.inl rfl) u
  obtain ⟨d1, d2, d3, -, -, -⟩ := h.d
  have eT : S'.T = S.T := by unfold RS.T; rw [e3]
  have eo : onF S' = onF S := by unfold onF RS.onA; rw [e2]
  have em : markF S' = markF S := by unfold markF; rw [e3]
  have ef : ∀ x, S'.ofL x = S.ofL x := fun x => by unfold RS.ofL RS.c; rw [e1]
  refine ⟨hb, by rw [e1]; exact h.l.chg hc (fun g hg e => (h.sl g hg).1 e), by rw [e1]; exact h.c.chg hc (fun g _ e => .inl e), by rw [eo]; exact h.t.chg hc (fun e => d1 e.symm), h.o.chg hc (fun e => d2 e.symm), fun x => by rw [ef]; exact (h.of x).chg hc (fun g hg e => (h.sh g ⟨x, hg⟩).1 e), by rw [em]; exact h.m.chg hc (fun e => d3 e.symm), by rw [eT, e3]; exact h.tr.chg hc (fun g hg e => (h.st g hg).1 e), h.d, h.sl, h.st, h.sh, h.sx⟩
theorem KP.setBk (h : KP w r S vl vt bt bo bm nt no nm us ho) (b : Int) : KP (w.setCell ⟨r, 6, none⟩ (.int .i64 b)) r { S with bk := b } vl vt bt bo bm nt no nm us ho := h.field (S' := { S with bk := b }) rfl rfl rfl (h.b.set_ 6 (.int .i64 b))
theorem KP.setBase (h : KP w r S vl vt bt bo bm nt no nm us ho) (b : Nat) : KP (w.setCell ⟨r, 5, none⟩ (.int .i64 (b : Nat))) r { S with base := b } vl vt bt bo bm nt no nm us ho := h.field (S' := { S with base := b }) rfl rfl rfl (h.b.set_ 5 (.int .i64 (b : Nat)))
/-- Both fields behind a spread. -/
theorem AsgQ.fin {w1 : World} {R : RS} {id : Int} {vt1 : Value} {nm1 : Nat} (hk : KP w1 r R vl vt1 bt bo bm nt no nm1 us ho) (hc : Chg (fun k => k = r ∨ k = bm ∨ vt.ownBlock = some k) w w1) (ho1 : vt1.ownBlock = vt.ownBlock ∨ ∃ g, vt1.ownBlock = some g ∧ w.heap.size ≤ g) :
    AsgQ w r (R.fin id) vl vt bt bo bm nt no us ho ((w1.setCell ⟨r, 6, none⟩ (.int .i64 id)).setCell ⟨r, 5, none⟩ (.int .i64 (R.tr.length : Nat))) :=
  ⟨vt1, nm1, (hk.setBk id).setBase R.tr.length, (hc.setCell (p := ⟨r, 6, none⟩) (.inl (.inl rfl)) _).setCell (p := ⟨r, 5, none⟩) (.inl (.inl rfl)) _, ho1⟩
theorem KP.trForm (h : KP w r S vl vt bt bo bm nt no nm us ho) : ∃ a c, vt = .slice a S.tr.length c := by
  rcases h.tr.form with ⟨e, e0, -⟩ | ⟨g, cap, e, -⟩
  · exact ⟨none, 0, by rw [e, e0]⟩
  · exact ⟨_, _, e⟩
set_option maxHeartbeats 4000000 in
set_option maxRecDepth 100000 in
theorem settle_ {A : List Int} (h : KP w r S vl vt bt bo bm nt no nm us ho) (hI : RInv S A) (hcl : S.cl.length ≤ 1000000) {i : Nat} (hi : i < S.cl.length) (hon : S.onA i = true) :
    Calls Try.prog 38 #[kp r, .int .i64 (i : Nat)] w fun e w' => e = .returned (.tuple #[]) ∧ AsgQ w r (S.settle i) vl vt bt bo bm nt no us ho w' := by
  obtain ⟨R, hR⟩ : ∃ R, R = S.settle i := ⟨_, rfl⟩
  rw [← hR]
  have c6 : w.cell? ⟨r, 6, none⟩ = some (.int .i64 S.bk) := h.b.cell 6
  by_cases hb : S.bk ≠ -1
  · have HF : Hid (AsgQ w r R vl vt bt bo bm nt no us ho w) := Lib.hid (by rw [hR, RS.settle, if_pos hb]; exact h.asgQ)
    have hb2 : (S.bk != -1) = true := by rw [bne_iff_ne]; exact hb
    clear h hI hcl hi hon hR hb
    go_enter Try.func38, Try.ntmps38
    go_wp2
    go_returns
    exact ⟨rfl, HF.out⟩
  · have hbe : S.bk = -1 := Decidable.byContradiction hb
    have hb2 : (S.bk != -1) = false := by rw [hbe]; rfl
    rw [RS.settle, if_neg hb] at hR
    obtain ⟨gl, cl, au, cu, hvl, qu, hu⟩ := us_at h hi
    obtain ⟨c1, c2⟩ := hI.c0 i hi
    have c0 : w.cell? ⟨r, 0, none⟩ = some vl := h.b.cell 0
    have HLK := Lib.hid (look_ h hI.con hu c1 c2)
    have HK := Lib.hid h
    have HI := Lib.hid hI
    have HRR := Lib.hid hR
    have HII := Lib.hid hi
    have HON := Lib.hid hon
    have HCL := Lib.hid hcl
    obtain ⟨n2, hn2⟩ : ∃ n, n = S.cl.length := ⟨_, rfl⟩
    rw [hvl, ← hn2] at c0
    have hlen3 : (i : Int) < (n2 : Int) := by omega
    have hi9 : i < 1000000 := by omega
    obtain ⟨nu, hnu⟩ : ∃ n, n = (S.c i).length := ⟨_, rfl⟩
    rw [← hnu] at qu HLK
    obtain ⟨tl, htl⟩ : ∃ tl, tl = telR (S.c i) S.T := ⟨_, rfl⟩
    obtain ⟨fl, hfl⟩ : ∃ fl, fl = falR (S.c i) S.T := ⟨_, rfl⟩
    rw [← htl, ← hfl] at HLK
    have HTL := Lib.hid htl
    have HFL := Lib.hid hfl
    obtain ⟨bk, hbk⟩ : ∃ bk, bk = S.bk := ⟨_, rfl⟩
    rw [← hbk] at c6 hb2
    clear h hI hcl hi hon hR hb hbe hn2 hnu hu c1 c2 htl hfl hvl hbk
    go_enter Try.func38, Try.ntmps38
    go_wp2_with fail
    refine HLK.out.mono ?_
    rintro e w1 ⟨rfl, hb1⟩
    have hk1 := HK.out.below hb1
    have HK1 := Lib.hid hk1
    have HC1 : Hid (Chg (fun k => k = r ∨ k = bm ∨ vt.ownBlock = some k) w w1) := Lib.hid (Chg.of_below hb1)
    clear hb1 qu c0 c6
    cases fl with
    | true =>
      have d6 : w1.cell? ⟨r, 6, none⟩ = some (.int .i64 S.bk) := hk1.b.cell 6
      have f6 := hk1.b.frozen 6
      have HF : Hid (AsgQ w r R vl vt bt bo bm nt no us ho (w1.setCell ⟨r, 6, none⟩ (.int .i64 (i : Nat)))) := Lib.hid (by
        have e := HRR.out
        rw [if_pos HFL.out.symm] at e
        rw [e]
        exact ⟨vt, nm, HK1.out.setBk (i : Int), HC1.out.setCell (p := ⟨r, 6, none⟩) (.inl (.inl rfl)) _, .inl rfl⟩)
      clear hk1
      go_wp2
      go_returns
      exact ⟨rfl, HF.out⟩
    | false =>
      by_cases ht : tl = 0
      · have HE : Hid (R = S.all_ S.base) := Lib.hid (by
          have e := HRR.out
          rw [if_neg (by rw [← HFL.out]; decide), if_neg (by rw [← HTL.out, ht]; decide)] at e
          exact e)
        have HSP := Lib.hid (spread_ HK1.out HI.out HCL.out HI.out.base (f := fuel) (by unfold fuel; omega))
        have d5 : w1.cell? ⟨r, 5, none⟩ = some (.int .i64 (S.base : Nat)) := hk1.b.cell 5
        obtain ⟨bs, hbs⟩ : ∃ bs, bs = S.base := ⟨_, rfl⟩
        rw [← hbs] at d5 HSP
        subst ht
        have HBS := Lib.hid hbs
        clear hk1 hbs
        obtain ⟨SX, hSX⟩ : ∃ SX, SX = S := ⟨_, rfl⟩
        rw [← hSX] at HSP HE HBS
        clear hSX
        go_wp2_with fail
        refine HSP.out.mono ?_
        rintro e w3 ⟨rfl, hq⟩
        obtain ⟨vt2, nm2, hk2, hc2, ho2⟩ := AsgQ.trans HK1.out HC1.out (.inl rfl) hq
        obtain ⟨X, hX⟩ : ∃ X, X = RS.spread fuel SX bs := ⟨_, rfl⟩
        rw [← hX] at hk2 ⊢
        have HF : Hid (AsgQ w r R vl vt bt bo bm nt no us ho ((w3.setCell ⟨r, 6, none⟩ (.int .i64 X.2)).setCell ⟨r, 5, none⟩ (.int .i64 (X.1.tr.length : Nat)))) := Lib.hid (by
          rw [HE.out, RS.all_, ← HBS.out, ← hX]
          exact AsgQ.fin hk2 hc2 ho2)
        obtain ⟨a2, c2, hv2⟩ := hk2.trForm
        have d4 : w3.cell? ⟨r, 4, none⟩ = some vt2 := hk2.b.cell 4
        have d6 : w3.cell? ⟨r, 6, none⟩ = some (.int .i64 X.1.bk) := hk2.b.cell 6
        have f6 := hk2.b.frozen 6
        have d5 : w3.cell? ⟨r, 5, none⟩ = some (.int .i64 (X.1.base : Nat)) := hk2.b.cell 5
        have f5 := hk2.b.frozen 5
        rw [hv2] at d4
        clear hk2 hc2 ho2 hq hv2 hX
        go_wp2
        go_returns
        exact ⟨rfl, HF.out⟩
      · have hne : telR (S.c i) S.T ≠ 0 := by rw [← HTL.out]; exact ht
        have HE0 : Hid (R = (S.asg tl (i : Int)).all_ S.base) := Lib.hid (by
          have e := HRR.out
          rw [if_neg (by rw [← HFL.out]; decide), if_pos hne, ← HTL.out] at e
          exact e)
        obtain ⟨t1, t2, t3⟩ := tel_ne (HI.out.nz HII.out) hne
        have HI4 : Hid (RInv (S.asg tl (i : Int)) A) := Lib.hid (by rw [HTL.out]; exact asg_inv HI.out HII.out HON.out hne)
        have HAS := Lib.hid (assign_ HK1.out HI.out.con (l := tl) (b := (i : Int)) (by rw [HTL.out]; exact (HI.out.c0 i HII.out).1 _ t1) (by rw [HTL.out]; exact t2))
        have hh : (tl != 0) = true := by rw [bne_iff_ne]; exact ht
        obtain ⟨SX, hSX⟩ : ∃ SX, SX = S.asg tl (i : Int) := ⟨_, rfl⟩
        obtain ⟨bs, hbs⟩ : ∃ bs, bs = SX.base := ⟨_, rfl⟩
        rw [← hSX] at HI4 HAS HE0
        have HE : Hid (R = SX.all_ SX.base) := Lib.hid (by rw [HE0.out, hSX]; rfl)
        have HBS := Lib.hid hbs
        have HCX : Hid (SX.cl.length ≤ 1000000) := Lib.hid (by rw [hSX]; exact HCL.out)
        clear t1 t2 t3 hne hk1 hbs hSX
        go_wp2_with fail
        refine HAS.out.mono ?_
        rintro e w2 ⟨rfl, vt1, nm1, hk2, hc2, ho2⟩
        have d5 : w2.cell? ⟨r, 5, none⟩ = some (.int .i64 (SX.base : Nat)) := hk2.b.cell 5
        have HSP := Lib.hid (spread_ hk2 HI4.out HCX.out HI4.out.base (f := fuel) (by unfold fuel; omega))
        rw [← HBS.out] at d5 HSP
        have HK2 := Lib.hid hk2
        have HC2 : Hid (Chg (fun k => k = r ∨ k = bm ∨ vt.ownBlock = some k) w w2) := Lib.hid (HC1.out.trans hc2 (fun i hi => .inl hi))
        have HO2 : Hid (vt1.ownBlock = vt.ownBlock ∨ ∃ g, vt1.ownBlock = some g ∧ w.heap.size ≤ g) := Lib.hid (by
          rcases ho2 with o | ⟨g, o, hg⟩
          · exact .inl o
          · exact .inr ⟨g, o, Nat.le_trans HC1.out.size hg⟩)
        clear hk2 hc2 ho2
        go_wp2_with fail
        refine HSP.out.mono ?_
        rintro e w3 ⟨rfl, hq⟩
        obtain ⟨vt2, nm2, hk2, hc2, ho2⟩ := AsgQ.trans HK2.out HC2.out HO2.out hq
        obtain ⟨X, hX⟩ : ∃ X, X = RS.spread fuel SX bs := ⟨_, rfl⟩
        rw [← hX] at hk2 ⊢
        have HF : Hid (AsgQ w r R vl vt bt bo bm nt no us ho ((w3.setCell ⟨r, 6, none⟩ (.int .i64 X.2)).setCell ⟨r, 5, none⟩ (.int .i64 (X.1.tr.length : Nat)))) := Lib.hid (by
          rw [HE.out, RS.all_, ← HBS.out, ← hX]
          exact AsgQ.fin hk2 hc2 ho2)
        obtain ⟨a2, c2, hv2⟩ := hk2.trForm
        have d4 : w3.cell? ⟨r, 4, none⟩ = some vt2 := hk2.b.cell 4
        have d6 : w3.cell? ⟨r, 6, none⟩ = some (.int .i64 X.1.bk) := hk2.b.cell 6
        have f6 := hk2.b.frozen 6
        have d5 : w3.cell? ⟨r, 5, none⟩ = some (.int .i64 (X.1.base : Nat)) := hk2.b.cell 5
        have f5 := hk2.b.frozen 5
        rw [hv2] at d4
        clear hk2 hc2 ho2 hq hv2 hX
        go_wp2
        go_returns
        exact ⟨rfl, HF.out⟩
end
end Go.Proofs.Ytknpfopepedmmaa
