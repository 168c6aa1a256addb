/-
  Maps from numbers to whatever one reads in one way, of the call's own, as functions.
-/
import Derived.Test.YtghlgegfokjgbaaFoot
import Derived.Test.YtghlgegfokjgbaaRows
import Derived.Maps.OwnSet
namespace Go.Proofs.Ytghlgegfokjgbaa
open Go Go.ChangeShapes Go.WideShapes Go.ChangeAt Go.RowKit Go.Maps
set_option linter.unusedVariables false
set_option linter.unusedSimpArgs false
def kI (x : Int) : Lit := .int .i64 x
section
variable {α : Type} (dv : α → DataW Unit)
def entF (p : Int × α) : Lit × DataW Unit := (kI p.1, dv p.2)
def datF (cs : List (Int × α)) : DataW Unit := .map (cs.map (entF dv))
def getF (cs : List (Int × α)) (x : Int) : Option α := (cs.find? (fun p => p.1 == x)).map (·.2)
def delF (cs : List (Int × α)) (x : Int) : List (Int × α) := cs.filter fun p => !(p.1 == x)
def insF (q : Int × α) : List (Int × α) → List (Int × α)
  | [] => [q]
  | y :: r => if q.1 < y.1 then q :: y :: r else y :: insF q r
def putF (cs : List (Int × α)) (x : Int) (v : α) : List (Int × α) := insF (x, v) (delF cs x)
theorem same_kI (x y : Int) : (kI x).sameKey (kI y) = (x == y) := by
  simp only [kI, Lit.sameKey, true_and]; by_cases h : x = y <;> simp [h]
theorem find_datF (cs : List (Int × α)) (x : Int) : (cs.map (entF dv)).find? (fun p => p.1.sameKey (kI x)) = (cs.find? (fun p => p.1 == x)).map (entF dv) := by
  induction cs with
  | nil => rfl
  | cons y r ih =>
    simp only [List.map_cons, List.find?_cons, ih]
    have : (entF dv y).1.sameKey (kI x) = (y.1 == x) := same_kI _ _
    rw [this]
    cases y.1 == x <;> rfl
theorem at_datF (cs : List (Int × α)) (x : Int) (zd : DataW Unit) : (datF dv cs).atKey (kI x) zd = match getF cs x with | some a => dv a | none => zd := by
  unfold DataW.atKey datF getF
  simp only [find_datF]
  cases cs.find? (fun p => p.1 == x) <;> rfl
theorem filter_datF (cs : List (Int × α)) (x : Int) : (cs.map (entF dv)).filter (fun p => !p.1.sameKey (kI x)) = (delF cs x).map (entF dv) := by
  unfold delF
  rw [List.filter_map]
  have : ((fun p : Lit × DataW Unit => !p.1.sameKey (kI x)) ∘ entF dv) = fun p => !(p.1 == x) := by
    funext p
    show (!(kI p.1).sameKey (kI x)) = _
    rw [same_kI]
  rw [this]
theorem del_datF (cs : List (Int × α)) (x : Int) : (datF dv cs).del (kI x) = datF dv (delF cs x) := by
  show DataW.map ((cs.map (entF dv)).filter (fun p => !p.1.sameKey (kI x))) = _
  rw [filter_datF]; rfl
theorem ins_datF (q : Int × α) (cs : List (Int × α)) : DataW.insert (entF dv q) (cs.map (entF dv)) = (insF q cs).map (entF dv) := by
  induction cs with
  | nil => rfl
  | cons y r ih =>
    simp only [List.map_cons, DataW.insert, insF, ih]
    have : (entF dv q).1.before (entF dv y).1 = decide (q.1 < y.1) := rfl
    rw [this]
    by_cases h : q.1 < y.1 <;> simp [h]
theorem put_datF (cs : List (Int × α)) (x : Int) (v : α) : (datF dv cs).put (kI x) (dv v) = datF dv (putF cs x v) := by
  show DataW.map (DataW.insert (kI x, dv v) ((cs.map (entF dv)).filter (fun p => !p.1.sameKey (kI x)))) = _
  rw [filter_datF]
  exact congrArg DataW.map (ins_datF dv (x, v) _)
theorem size_datF (cs : List (Int × α)) : Maps.size (datF dv cs) = cs.length := by simp [Maps.size, datF]
theorem any_datF (cs : List (Int × α)) (x : Int) : ((cs.map (entF dv)).any fun p => p.1.sameKey (kI x)) = (getF cs x).isSome := by
  unfold getF
  induction cs with
  | nil => rfl
  | cons y r ih =>
    simp only [List.map_cons, List.any_cons, List.find?_cons, ih]
    have : (entF dv y).1.sameKey (kI x) = (y.1 == x) := same_kI _ _
    rw [this]
    cases y.1 == x <;> simp
end
section
variable {α : Type}
theorem get_del (cs : List (Int × α)) (x y : Int) : getF (delF cs x) y = if y = x then none else getF cs y := by
  unfold getF delF
  induction cs with
  | nil => simp
  | cons q r ih =>
    by_cases hq : q.1 = x
    · have e : (q :: r).filter (fun p => !(p.1 == x)) = r.filter (fun p => !(p.1 == x)) := by simp [hq]
      rw [e, ih]
      by_cases hy : y = x
      · rw [if_pos hy, if_pos hy]
      · rw [if_neg hy, if_neg hy, List.find?_cons]
        have : (q.1 == y) = false := by rw [beq_eq_false_iff_ne]; omega
        rw [this]
    · have e : (q :: r).filter (fun p => !(p.1 == x)) = q :: r.filter (fun p => !(p.1 == x)) := by simp [hq]
      rw [e, List.find?_cons, List.find?_cons]
      by_cases hqy : q.1 = y
      · have : (q.1 == y) = true := by simpa using hqy
        rw [this]
        rw [if_neg (by omega)]
      · have : (q.1 == y) = false := by simpa using hqy
        rw [this]
        exact ih
theorem get_ins (q : Int × α) : ∀ (cs : List (Int × α)) (y : Int), getF cs q.1 = none → getF (insF q cs) y = if y = q.1 then some q.2 else getF cs y
  | [], y, _ => by
    unfold insF getF
    rw [List.find?_cons]
    by_cases h : y = q.1
    · rw [if_pos h, h]; simp
    · have : (q.1 == y) = false := by rw [beq_eq_false_iff_ne]; omega
      rw [if_neg h, this]
  | x :: r, y, hn => by
    have hx : (x.1 == q.1) = false := by
      unfold getF at hn
      rw [List.find?_cons] at hn
      cases h : x.1 == q.1 with
      | false => rfl
      | true => rw [h] at hn; simp at hn
    have hr : getF r q.1 = none := by
      unfold getF at hn ⊢
      rw [List.find?_cons, hx] at hn
      exact hn
    unfold insF
    by_cases hlt : q.1 < x.1
    · rw [if_pos hlt]
      unfold getF
      rw [List.find?_cons]
      by_cases h : y = q.1
      · rw [if_pos h, h]; simp
      · have : (q.1 == y) = false := by rw [beq_eq_false_iff_ne]; omega
        rw [if_neg h, this]
    · rw [if_neg hlt]
      have ih := get_ins q r y hr
      unfold getF at ih ⊢
      rw [List.find?_cons, List.find?_cons]
      cases h : x.1 == y with
      | true =>
        have : x.1 ≠ q.1 := by simpa using hx
        have : x.1 = y := by simpa using h
        rw [if_neg (by omega)]
      | false => exact ih
theorem get_put (cs : List (Int × α)) (x : Int) (v : α) (y : Int) : getF (putF cs x v) y = if y = x then some v else getF cs y := by
  unfold putF
  rw [get_ins (x, v) _ y (by rw [get_del, if_pos rfl]), get_del]
  by_cases h : y = x
  · rw [if_pos h, if_pos h]
  · rw [if_neg h, if_neg h, if_neg h]
theorem keys_del {cs : List (Int × α)} (h : (cs.map (·.1)).Nodup) (x : Int) : ((delF cs x).map (·.1)).Nodup := h.sublist ((List.filter_sublist).map _)
theorem keys_ins (q : Int × α) : ∀ {cs : List (Int × α)}, (cs.map (·.1)).Nodup → getF cs q.1 = none → ((insF q cs).map (·.1)).Nodup ∧ ∀ y, y ∈ (insF q cs).map (·.1) → y = q.1 ∨ y ∈ cs.map (·.1)
  | [], _, _ => ⟨by simp [insF], fun y hy => by simp [insF] at hy; exact .inl hy⟩
  | x :: r, h, hn => by
    have hx : x.1 ≠ q.1 := by
      unfold getF at hn
      rw [List.find?_cons] at hn
      intro e
      have : (x.1 == q.1) = true := by simpa using e
      rw [this] at hn; simp at hn
    have hr : getF r q.1 = none := by
      unfold getF at hn ⊢
      have : (x.1 == q.1) = false := by simpa using hx
      rw [List.find?_cons, this] at hn
      exact hn
    have hqr : q.1 ∉ r.map (·.1) := fun hm => by
      obtain ⟨p, hp, e⟩ := List.mem_map.1 hm
      unfold getF at hr
      have : r.find? (fun p => p.1 == q.1) = none := by
        cases hf : r.find? (fun p => p.1 == q.1) with
        | none => rfl
        | some a => rw [hf] at hr; simp at hr
      rw [List.find?_eq_none] at this
      exact this p hp (by simpa using e)
    rw [List.map_cons, List.nodup_cons] at h
    unfold insF
    by_cases hlt : q.1 < x.1
    · rw [if_pos hlt]
      refine ⟨?_, fun y hy => ?_⟩
      · rw [List.map_cons, List.map_cons, List.nodup_cons, List.nodup_cons]
        refine ⟨fun hm => ?_, h.1, h.2⟩
        rcases List.mem_cons.1 hm with e | e
        · exact hx e.symm
        · exact hqr e
      · rw [List.map_cons] at hy
        rcases List.mem_cons.1 hy with e | e
        · exact .inl e
        · exact .inr e
    · rw [if_neg hlt]
      obtain ⟨i1, i2⟩ := keys_ins q h.2 hr
      refine ⟨?_, fun y hy => ?_⟩
      · rw [List.map_cons, List.nodup_cons]
        refine ⟨fun hm => ?_, i1⟩
        rcases i2 _ hm with e | e
        · exact hx e
        · exact h.1 e
      · rw [List.map_cons] at hy ⊢
        rcases List.mem_cons.1 hy with e | e
        · exact .inr (by rw [e]; exact List.mem_cons_self)
        · rcases i2 _ e with e | e
          · exact .inl e
          · exact .inr (List.mem_cons_of_mem _ e)
theorem keys_put {cs : List (Int × α)} (h : (cs.map (·.1)).Nodup) (x : Int) (v : α) : ((putF cs x v).map (·.1)).Nodup := (keys_ins (x, v) (keys_del h x) (by rw [get_del, if_pos rfl])).1
theorem mem_keys {cs : List (Int × α)} {x : Int} : x ∈ cs.map (·.1) ↔ (getF cs x).isSome = true := by
  unfold getF
  induction cs with
  | nil => simp
  | cons y r ih =>
    rw [List.map_cons, List.find?_cons]
    by_cases h : y.1 = x
    · have : (y.1 == x) = true := by simpa using h
      rw [this]; simp [h]
    · have h2 : (y.1 == x) = false := by simpa using h
      rw [h2, ← ih]
      constructor
      · intro hm
        rcases List.mem_cons.1 hm with e | e
        · exact absurd e.symm h
        · exact e
      · exact fun e => List.mem_cons_of_mem _ e
end
/-- A kind of elements that read in one way. -/
structure EKnd (α : Type) where
  e : TypeId
  R : Value → Option (DataW Unit × List MemPlace)
  ev : α → Value
  dv : α → DataW Unit
  z : α
  rd : ∀ a, R (ev a) = some (dv a, [])
  inv : ∀ {v a ps}, R v = some (dv a, ps) → v = ev a
  zr : ∀ w, (zeroValue e).run Try.prog w = .ok (ev z) w
def MapF {α : Type} (E : EKnd α) (w : World) (b n : Nat) (f : Int → Option α) : Prop := ∃ cs, w.ownsMap Try.prog 3 E.R b n (datF E.dv cs) ∧ (cs.map (·.1)).Nodup ∧ f = getF cs
def upd {α : Type} (f : Int → Option α) (x : Int) (v : Option α) : Int → Option α := fun y => if y = x then v else f y
def in64 (x : Int) : Prop := -9223372036854775808 ≤ x ∧ x ≤ 9223372036854775807
theorem kint : Keyed Try.prog 3 := int_keyed Try.underlying3
theorem wf64 {x : Int} (h : in64 x) : (Lit.int .i64 x).wf = true := by
  obtain ⟨a, b⟩ := h
  have h1 : IntKind.i64.min = -9223372036854775808 := by decide
  have h2 : IntKind.i64.max = 9223372036854775807 := by decide
  simp [Lit.wf, h1, h2]
  omega
theorem key64 {x : Int} (h : in64 x) : keyOf Try.prog 3 (.int .i64 x) = some (kI x) := keyOf_int_mk Try.underlying3 (wf64 h)
section
variable {α : Type} {E : EKnd α} {w w' : World} {b n : Nat} {f : Int → Option α}
theorem turned_chg (h : w.mapTurned w' b) : Chg (fun k => k = b) w w' := Chg.of_grown h.grown (fun k hk => by injection hk with hk; exact hk.symm)
theorem MapF.chg {S : Nat → Prop} (h : MapF E w b n f) (hc : Chg S w w') (hn : ¬ S b) : MapF E w' b n f := by
  obtain ⟨cs, ⟨es, clock, hb, F, hs, hD⟩, h2, h3⟩ := h
  exact ⟨cs, ⟨es, clock, hc.at_ hb hn, F, hs, hD⟩, h2, h3⟩
theorem MapF.lt (h : MapF E w b n f) : b < w.heap.size := by
  obtain ⟨cs, h, -⟩ := h
  exact h.lt
theorem MapF.mono (h : MapF E w b n f) {n' : Nat} (hn : n ≤ n') : MapF E w b n' f := by
  obtain ⟨cs, h1, h2⟩ := h
  exact ⟨cs, h1.mono hn, h2⟩
theorem MapF.made (E : EKnd α) (w : World) : MapF E (w.alloc (.map #[] 0)) w.heap.size 0 (fun _ => none) := ⟨[], World.ownsMap_made w _ _ _, by simp, rfl⟩
theorem MapF.look (h : MapF E w b n f) {T : TypeId} (hT : Try.prog.underlying T = some (.map 3 E.e)) {x : Int} (hx : in64 x) : (Instr.lookup T (.map (some b)) (.int .i64 x) false).run Try.prog w = .ok (E.ev ((f x).getD E.z)) w := by
  obtain ⟨cs, h1, h2, rfl⟩ := h
  obtain ⟨v, ps, hr, hv⟩ := h1.lookup kint hT (E.zr w) (E.rd E.z) (key64 hx)
  rw [at_datF] at hv
  rw [hr]
  cases hg : getF cs x with
  | none => rw [hg] at hv; rw [E.inv hv]; rfl
  | some a => rw [hg] at hv; rw [E.inv hv]; rfl
theorem MapF.look_ok (h : MapF E w b n f) {T : TypeId} (hT : Try.prog.underlying T = some (.map 3 E.e)) {x : Int} (hx : in64 x) : (Instr.lookup T (.map (some b)) (.int .i64 x) true).run Try.prog w = .ok (.tuple #[E.ev ((f x).getD E.z), .bool (f x).isSome]) w := by
  obtain ⟨cs, h1, h2, rfl⟩ := h
  obtain ⟨v, ps, hr, hv⟩ := h1.look_ok kint hT (E.zr w) (E.rd E.z) (key64 hx)
  rw [at_datF] at hv
  have hh : Maps.has (datF E.dv cs) (kI x) = (getF cs x).isSome := by rw [← any_datF E.dv]; rfl
  rw [hr, hh]
  cases hg : getF cs x with
  | none => rw [hg] at hv; rw [E.inv hv]; rfl
  | some a => rw [hg] at hv; rw [E.inv hv]; rfl
theorem MapF.store (h : MapF E w b n f) {T : TypeId} (hT : Try.prog.underlying T = some (.map 3 E.e)) (hn : n < maxLen) {x : Int} (hx : in64 x) (a : α) : ∃ w', (Instr.mapUpdate T (.map (some b)) (.int .i64 x) (E.ev a)).run Try.prog w = .ok () w' ∧ MapF E w' b (n + 1) (upd f x (some a)) ∧ Chg (fun k => k = b) w w' := by
  obtain ⟨cs, h1, h2, rfl⟩ := h
  obtain ⟨w', hr, ho, ht⟩ := h1.store kint hT hn (key64 hx) (E.rd a)
  rw [put_datF] at ho
  exact ⟨w', hr, ⟨putF cs x a, ho, keys_put h2 x a, by funext y; rw [get_put]; rfl⟩, turned_chg ht⟩
theorem MapF.drop (h : MapF E w b n f) {T : TypeId} (hT : Try.prog.underlying T = some (.map 3 E.e)) {x : Int} (hx : in64 x) (ty : TypeId) : ∃ w', (Builtin.delete_ #[T, 3] ty #[.map (some b), .int .i64 x]).run Try.prog w = .ok (.tuple #[]) w' ∧ MapF E w' b n (upd f x none) ∧ Chg (fun k => k = b) w w' := by
  obtain ⟨cs, h1, h2, rfl⟩ := h
  obtain ⟨w', hr, ho, ht⟩ := h1.drop kint hT (key64 hx) ty
  rw [del_datF] at ho
  exact ⟨w', hr, ⟨delF cs x, ho, keys_del h2 x, by funext y; rw [get_del]; rfl⟩, turned_chg ht⟩
/-- How many keys there are. -/
theorem MapF.len (h : MapF E w b n f) {T : TypeId} (hT : Try.prog.underlying T = some (.map 3 E.e)) (ty : TypeId) : ∃ ks : List Int, (Builtin.len_ #[T] ty #[.map (some b)]).run Try.prog w = .ok (.int .i64 (ks.length : Nat)) w ∧ ks.Nodup ∧ ∀ x, x ∈ ks ↔ (f x).isSome = true := by
  obtain ⟨cs, h1, h2, rfl⟩ := h
  refine ⟨cs.map (·.1), ?_, h2, fun x => mem_keys⟩
  have := h1.len hT ty
  rw [size_datF] at this
  rw [List.length_map]
  exact this
end
end Go.Proofs.Ytghlgegfokjgbaa
